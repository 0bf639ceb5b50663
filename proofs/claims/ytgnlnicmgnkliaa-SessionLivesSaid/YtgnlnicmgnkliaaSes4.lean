import Derived.Test.YtgnlnicmgnkliaaSes3
/- Sessions in memory: they are taken out, made, and gone through. -/
namespace Go.Proofs
open Gp Gp.Hash
open Gp.Ses (Ses Slots live GoodS freeN getS ids)
open Gp.Bind (In64)
set_option maxRecDepth 100000

section
variable {w w' : World} {A : Adr} {most : Nat} {S : Slots} {M : ByteArray → Option Int}

theorem isId (p : Nat) (id : Int) : FnI (Value.func (.func 60) #[] #[.pointer (some ⟨p, 0, none⟩)]) (fun W => Row W p [.int .i64 id]) (fun x => x == id) := by
  intro x W K hC hK
  refine callV_fn (by kernel_rfl) ?_
  have : c_session_Table_Remove_1 x ⟨p, 0, none⟩ W fun r W' => r = (x == id) ∧ W' = W := by
    apply ok_session_Table_Remove_1
    unfold s_session_Table_Remove_1
    simp only [Ld_eq, List.getElem?_cons_zero, LdV_some, dec_int, hC.cell]
    exact ⟨by trivial, by trivial⟩
  refine Calls.mono this ?_
  rintro e W' ⟨r, he, rfl, hw⟩
  subst hw
  exact ⟨_, he, hK⟩

theorem tremove_ok (h : TA w A most S M) (id : Int) :
    c_session_Table_Remove (some ⟨A.d, 0, none⟩) id w fun r w' => r = (getS S id).isSome ∧ Fr8 w w' (fp A) ∧ ∃ A' S' M', TA w' A' most S' M' ∧ A'.d = A.d ∧ (∀ x, fp A' x → fp A x) ∧ S' = (if (getS S id).isSome then S.set id.toNat none else S) := by
  apply ok_session_Table_Remove
  unfold s_session_Table_Remove
  have hl := h.len
  have hm := h.mx
  refine ⟨rfl, Al_e fun p4 w1 q1 e1 z1 f1 => ?_⟩
  have h1 := h.ext f1
  simp -zeta only [ex_some, Ld_eq, List.getElem?_cons_zero, LdV_some, dec_int, add_mk, Nat.zero_add, q1.cell]
  refine cm_session_Table_has (thas_ok h1 id) ?_
  rintro _ w2 ⟨rfl, hw⟩
  subst hw
  cases hg : getS S id with
  | none =>
    simp -zeta only [Option.isSome_none, Bool.not_false, cond_true]
    exact ⟨by trivial, f1 _, A, S, M, h1, rfl, fun x hx => hx, by simp⟩
  | some b =>
    obtain ⟨g0, g1⟩ := Gp.Ses.getS_some.1 hg
    have gl := (List.getElem?_eq_some_iff.1 g1).1
    have hb := h.good.ok _ _ g1
    obtain ⟨i, rfl⟩ : ∃ i : Nat, id = (i : Int) := ⟨id.toNat, by omega⟩
    rw [Int.toNat_natCast] at g1 gl
    have x1 : Ext w w2.drew := f1.trans (Ext.drew _)
    have h1d := h.ext x1
    have q1d := q1.drew
    have c : ∀ j, j < 6 → _ := h1d.slot g1
    have c0 := c 0 (by omega)
    have c1 := c 1 (by omega)
    have c2 := c 2 (by omega)
    have c3 := c 3 (by omega)
    have c4 := c 4 (by omega)
    simp only [Nat.add_zero, slotV, List.getElem?_cons_zero, List.getElem?_cons_succ] at c0 c1 c2 c3 c4
    simp -zeta only [Option.isSome_some, Bool.not_true, cond_false, List.getElem?_cons_zero, LdV_some, dec_slice, dec_int, AtIx_some, add_mk, Nat.zero_add, Nat.add_zero, h1d.hd.cell, q1d.cell, Int.toNat_natCast, c0, c1, c2, c3, c4]
    refine ⟨by omega, by omega, Al_e fun p3 w3 r3 e3 z3 f3 => ?_⟩
    have h3 := h1d.ext f3
    have q3 := q1d.ext f3
    have d : ∀ j, j < 6 → _ := h3.slot g1
    have d0 := d 0 (by omega)
    have d1 := d 1 (by omega)
    have d2 := d 2 (by omega)
    have d3 := d 3 (by omega)
    have d4 := d 4 (by omega)
    simp only [Nat.add_zero, slotV, List.getElem?_cons_zero, List.getElem?_cons_succ] at d0 d1 d2 d3 d4
    simp -zeta only [true_and, List.getElem?_cons_zero, add_mk, Nat.zero_add, Nat.add_zero, h3.hd.cell, q3.cell, d0, d1, d2, d3, d4]
    refine StN_full r3 rfl rfl fun w4 r4 f4 z4 => ?_
    have z31 : w2.drew.heap.size = w2.heap.size := rfl
    have zx1 := x1.size
    have p34 : p4 ≠ p3 := by omega
    have x4 : Ext w2 w4 := ((Ext.drew w2).trans f3).new (f4 (· = p3) rfl) fun y hy e => by omega
    have x4d : Ext w w4.drew := (f1.trans x4).trans (Ext.drew _)
    have h4 := h.ext x4d
    have q4 : Row w4.drew p4 _ := (q1.ext x4).drew
    have r4d := r4.drew
    simp -zeta only [List.getElem?_cons_zero, List.getElem?_cons_succ, LdV_some, dec_int, dec_ptr, h4.hd.cell, r4d.cell]
    refine cm_session_key (skey_ok _ _ _ hb _) ?_
    rintro _ w5 ⟨rfl, f5⟩
    have h5 := h4.ext f5
    have q5 := q4.ext f5
    have r5 := r4d.ext f5
    simp -zeta only [true_and, List.getElem?_cons_zero, List.getElem?_cons_succ, h5.hd.cell]
    obtain ⟨L, tb, cL⟩ := h5.tb
    obtain ⟨⟨n1, n2, n3, n4, n5, n6, n7, n8, n9⟩, no⟩ := h.ne
    have hp3 : ∀ x, fp A x → x ≠ p3 := fun x hx => by have := h1d.lt hx; omega
    have hp4 : ∀ x, fp A x → x ≠ p4 := fun x hx => by have := h.lt hx; omega
    refine cm_hash_Table_Delete (hdelete_ok tb (Bind.keyS b.k) (keyS_size _ (by simp [Ses.k]))) ?_
    rintro _ w6 ⟨_, ⟨L6, t6, c6⟩, f6⟩
    have hM : M (Bind.keyS b.k) = some (i : Int) := (h.good.k _ _).2 ⟨_, b, g1, rfl, rfl⟩
    have hd6 := (h5.hd.fr f6 (by rintro (h | h); exact n2 h; exact n3 h)).drew
    have q6 : Row w6.drew p4 _ := (q5.fr f6 (by rintro (h | h); exact hp4 _ (.inr (.inr (.inl rfl))) h.symm; exact hp4 _ (.inr (.inr (.inr (.inl rfl)))) h.symm)).drew
    have r6 : Row w6.drew p3 _ := (r5.fr f6 (by rintro (h | h); exact hp3 _ (.inr (.inr (.inl rfl))) h.symm; exact hp3 _ (.inr (.inr (.inr (.inl rfl)))) h.symm)).drew
    have row6 := (h5.row.fr f6 (by rintro (h | h); exact n5 h; exact n6 h)).drew
    have own6 := (h5.own.fr f6 (by rintro (h | h); exact n8 h.symm; exact n9 h.symm) fun x hx => by
      have := no x hx
      rintro (h | h)
      · exact this.2.2.1 h
      · exact this.2.2.2 h).fr (Ext.drew _ fun _ => False) (by simp) (by simp)
    have t6d := t6.frn (Ext.drew w6)
    have f6d : Fr8 w5 w6.drew (fun x => x = A.ti ∨ x = A.si) := f6.ext (Ext.drew _)
    simp -zeta only [List.getElem?_cons_zero, List.getElem?_cons_succ, LdV_some, dec_int, dec_map, hd6.cell, r6.cell]
    refine own6.get b.bd ?_
    have lold : ∀ x, SliceV.at (lkS A.l b.bd) x → ownB A.l x := fun x hx => by
      obtain ⟨s, g1, _, g2⟩ := lkS_at hx
      exact ⟨_, s, g1, g2⟩
    have hil := Gp.Ses.ids_len S b.bd
    refine cm_slices_DeleteFunc_int_int (delI_ok (own6.buf b.bd) (by omega) (isId p4 (i : Int)) fun W hf => q6.fr hf fun hx => hp4 _ (.inr (.inr (.inr (.inr (.inr (lold _ hx)))))) rfl) ?_
    rintro s7 w7 ⟨b7, f7, n7'⟩
    have e7 : (ids S b.bd).filter (fun x => !(x == (i : Int))) = ids (S.set i none) b.bd := by rw [Gp.Ses.ids_remove g1]; rfl
    rw [e7] at b7
    have hd7 := (hd6.fr f7 fun hx => (no _ (lold _ hx)).1 rfl).drew
    have q7 := (q6.fr f7 fun hx => hp4 _ (.inr (.inr (.inr (.inr (.inr (lold _ hx)))))) rfl).drew
    have r7 := (r6.fr f7 fun hx => hp3 _ (.inr (.inr (.inr (.inr (.inr (lold _ hx)))))) rfl).drew
    have row7 := (row6.fr f7 fun hx => (no _ (lold _ hx)).2.1 rfl).drew
    have t7 := (t6d.fr f7 (fun hx => (no _ (lold _ hx)).2.2.1 rfl) (fun hx => (no _ (lold _ hx)).2.2.2 rfl)).frn (Ext.drew w7)
    have f7d : Fr8 w6.drew w7.drew (SliceV.at (lkS A.l b.bd)) := f7.ext (Ext.drew _)
    have b7d := b7.ext (Ext.drew w7)
    simp -zeta only [List.getElem?_cons_zero, List.getElem?_cons_succ, LdV_some, dec_int, dec_map, hd7.cell, r7.cell]
    refine own6.set (S' := S.set i none) f7d (fun hx => own6.ne _ (lold _ hx) rfl) (fun x _ hx => hx) b7d (fun x hx => .inl (n7' x hx)) (fun k hk => Gp.Ses.ids_remove_other g1 hk) fun w8 own8 f8 z8 => ?_
    have up8 : ∀ x, ownB (upF A.l b.bd s7) x → ownB A.l x := fun x hx => by
      rcases ownB_up hx with h1 | h1
      · exact lold x (n7' x h1)
      · exact h1
    have f58 : Fr8 w5 w8 (fp A) := ((f6d.mono (S' := fp A) fun x hx => by
      rcases hx with hx | hx
      · exact .inr (.inr (.inl hx))
      · exact .inr (.inr (.inr (.inl hx)))).trans f7d fun x _ hx => .inr (.inr (.inr (.inr (.inr (lold x hx)))))).trans f8 fun x _ hx => .inr (.inr (.inr (.inr (.inl hx))))
    have f08 : Fr8 w w8 (fp A) := ((x4d.trans f5) (fp A)).trans f58 fun _ _ hx => hx
    have hd8 := hd7.fr f8 n4
    have q8 := q7.fr f8 fun hx => hp4 _ (.inr (.inr (.inr (.inr (.inl rfl))))) hx.symm
    have r8 := r7.fr f8 fun hx => hp3 _ (.inr (.inr (.inr (.inr (.inl rfl))))) hx.symm
    have row8 := row7.fr f8 n7
    have t8 := t7.fr f8 n8 n9
    intro J
    have hJ : ∀ W l', OwnM W A.m l' (S.set i none) → (∀ x, ownB l' x → ownB A.l x) → Fr8 w8 W (· = A.m) → J W := by
      intro W l' hown hsub hf
      have hdW := (hd8.fr hf n4).drew
      have qW : Row W.drew p4 _ := (q8.fr hf fun hx => hp4 _ (.inr (.inr (.inr (.inr (.inl rfl))))) hx.symm).drew
      have rowW := (row8.fr hf n7).drew
      have tW := (t8.fr hf n8 n9).frn (Ext.drew W)
      have ownW := hown.fr (Ext.drew _ fun _ => False) (by simp) (by simp)
      simp only [J, List.getElem?_cons_zero, LdV_some, dec_slice, dec_int, AtIx_some, add_mk, Nat.zero_add, hdW.cell, qW.cell, Int.toNat_natCast]
      refine ⟨by omega, by omega, ?_⟩
      refine St_slot rowW gl none fun w9 row9 f9 z9 => ?_
      have hd9 := hdW.fr f9 n1
      simp only [List.getElem?_cons_zero, List.getElem?_cons_succ, LdV_some, dec_int, hd9.cell]
      have hlen := Gp.Ses.live_remove_len 0 g1
      have hll := Gp.Ses.live_len_le S 0
      rw [wrap_i64 (by omega) (by omega)]
      refine St_row hd9 rfl (by simp) fun w10 hd10 f10 z10 => ?_
      simp only [List.set_cons_zero, List.set_cons_succ] at hd10
      have f10d := f10 (· = A.d) rfl
      have t10 := (tW.fr f9 (Ne.symm n5) (Ne.symm n6)).fr f10d (Ne.symm n2) (Ne.symm n3)
      have own10 := (ownW.fr f9 n7.symm fun x hx => (no x (hsub x hx)).2.1).fr f10d n4.symm fun x hx => (no x (hsub x hx)).1
      have eu : ∀ M k v, Go.Proofs.upd M k v = Gp.Bind.upd M k v := fun _ _ _ => rfl
      rw [eu] at t10
      have e : ((live 0 S).length : Int) - 1 = ((live 0 (S.set i none)).length : Int) := by omega
      rw [e] at hd10
      rw [hM] at c6
      simp only [Option.isSome_some, if_true] at c6
      have ta : TA w10 { A with l := l' } most (S.set i none) (Gp.Bind.upd M (Bind.keyS b.k) none) :=
        ⟨hd10, row9.fr f10d (Ne.symm n1), by rw [List.length_set]; exact hl, hm, ⟨L6, t10, by omega⟩, own10, h.good.remove g1, ⟨⟨n1, n2, n3, n4, n5, n6, n7, n8, n9⟩, fun x hx => no x (hsub x hx)⟩⟩
      refine ⟨?_, _, _, _, ta, rfl, ?_, by simp⟩
      · exact (((f08.trans hf fun x _ hx => .inr (.inr (.inr (.inr (.inl hx))))).ext (Ext.drew _)).trans f9 fun x _ hx => .inr (.inl hx)).trans f10d fun x _ hx => .inl hx
      · rintro x (hx | hx | hx | hx | hx | hx)
        · exact .inl hx
        · exact .inr (.inl hx)
        · exact .inr (.inr (.inl hx))
        · exact .inr (.inr (.inr (.inl hx)))
        · exact .inr (.inr (.inr (.inr (.inl hx))))
        · exact .inr (.inr (.inr (.inr (.inr (hsub x hx)))))
    clear_value J
    have l7 := b7.len
    by_cases hz : ((s7.len : Int) == 0) = true
    · rw [hz, cond_true]
      have hz' : ids (S.set i none) b.bd = [] := by
        have : (s7.len : Int) = 0 := by simpa using hz
        exact List.length_eq_zero_iff.1 (by omega)
      have hd8d := hd8.drew
      have r8d := r8.drew
      simp only [List.getElem?_cons_zero, List.getElem?_cons_succ, LdV_some, dec_int, dec_map, hd8d.cell, r8d.cell]
      have own8d := own8.fr (Ext.drew w8 fun _ => False) (by simp) (by simp)
      refine own8d.del hz' fun w9 own9 f9 z9 => ?_
      exact hJ w9 _ own9 (fun x hx => up8 x (ownB_del own8.nd hx)) (((Ext.drew w8) (· = A.m)).trans f9 fun _ _ e => e)
    · rw [Bool.eq_false_iff.2 hz, cond_false]
      exact hJ w8 _ own8 up8 (Fr8.refl _ _)

/-! ### All of them -/
abbrev yK : List Shape := [.one (.int .i64), .agg [(.int .i64), (.int .i64), (.int .i64), (.int .i64), (.int .i64)]]
def yS (L : List (Int × Ses)) : List (DenR yK) := L.map fun x => (x.1, (x.2.bd, x.2.st, x.2.un, x.2.ra, x.2.rp, ()), ())

theorem live_append : ∀ (S T : Slots) (k : Nat), live k (S ++ T) = live k S ++ live (k + S.length) T
  | [], T, k => by simp [live]
  | none :: r, T, k => by rw [List.cons_append, live, live, live_append r T (k + 1)]; simp; congr 1; omega
  | some b :: r, T, k => by rw [List.cons_append, live, live, live_append r T (k + 1)]; simp; congr 1; omega

theorem live_at {S : Slots} {i : Nat} {b : Ses} (h : S[i]? = some (some b)) : (live 0 S)[(live 0 (S.take i)).length]? = some ((i : Int), b) ∧ (live 0 (S.take (i + 1))).length = (live 0 (S.take i)).length + 1 := by
  have hlt := (List.getElem?_eq_some_iff.1 h).1
  have hS : S[i] = some b := by rw [List.getElem?_eq_getElem hlt] at h; simpa using h
  have e1 : S = S.take i ++ some b :: S.drop (i + 1) := by
    conv => lhs; rw [← List.take_append_drop i S, List.drop_eq_getElem_cons hlt, hS]
  have hl : (S.take i).length = i := by simp; omega
  constructor
  · conv => lhs; rw [e1]
    rw [live_append, List.getElem?_append_right (by simp [hl])]
    simp [live, hl]
  · rw [List.take_succ_eq_append_getElem hlt, hS, live_append]
    simp [live]

theorem live_skip {S : Slots} {i : Nat} (h : S[i]? = some none) : (live 0 (S.take (i + 1))).length = (live 0 (S.take i)).length := by
  have hlt := (List.getElem?_eq_some_iff.1 h).1
  have hS : S[i] = none := by rw [List.getElem?_eq_getElem hlt] at h; simpa using h
  rw [List.take_succ_eq_append_getElem hlt, hS, live_append]
  simp [live]

theorem all_iter (most : Nat) (S : Slots) (M : ByteArray → Option Int) (A : Adr) (f0 : Nat) :
    IterFn Try.prog yK (Value.func (.func 61) #[] #[(Value.pointer (some ⟨f0, 0, none⟩))])
      (fun W => Row W f0 [.pointer (some ⟨A.d, 0, none⟩)] ∧ TA W A most S M) (yS (live 0 S)) := by
  refine ⟨by kernel_rfl, fun n Q D hC hQ hD hy w h0 => ?_⟩
  refine Calls.mono (ok_session_Table_All_1 (a0 := .func (.yield n) #[] #[]) (f0 := ⟨f0, 0, none⟩) (K := fun w' => Q (yS (live 0 S)).length w' ∨ D w') ?_) (fun e w' h => h)
  unfold s_session_Table_All_1
  obtain ⟨r0, h⟩ := hC _ _ h0
  have hl := h.len
  have hm := h.mx
  simp only [cond_false, Ld_eq, List.getElem?_cons_zero, LdV_some, dec_ptr, r0.cell]
  refine cm_session_Table_ready (tready_ok h) ?_
  rintro _ w2 ⟨rfl, hw⟩
  subst hw
  simp only [Bool.not_true, cond_false, ex_some, List.getElem?_cons_zero, LdV_some, dec_slice, dec_ptr, AtIx_some, add_mk, Nat.zero_add, Nat.add_zero, r0.cell, h.hd.cell]
  have hyl : (yS (live 0 S)).length = (live 0 S).length := by simp [yS]
  rw [hyl]
  refine LoopP_inv (fun st W => ∃ i : Nat, i ≤ most ∧ st.1 = (i : Int) ∧ Q (live 0 (S.take i)).length W) (fun st _ => most - st.1.toNat) ⟨0, by omega, rfl, by simpa [live] using h0⟩ ?_
  rintro ⟨x, ⟨⟩⟩ W ⟨i, hi, rfl, hq⟩ next hnext
  obtain ⟨r0, h⟩ := hC _ _ hq
  by_cases hlt : i < most
  · have hlt' : ((i : Int) < (most : Int)) := by omega
    have hS : S[i]? = some S[i] := List.getElem?_eq_getElem (by omega)
    generalize S[i] = o at hS
    have c : ∀ j, j < 6 → _ := h.slot hS
    have c0 := c 0 (by omega)
    have c1 := c 1 (by omega)
    have c2 := c 2 (by omega)
    have c3 := c 3 (by omega)
    have c4 := c 4 (by omega)
    have c5 := c 5 (by omega)
    simp only [Nat.add_zero] at c0
    cases o with
    | none =>
      simp only [hlt', decide_true, cond_true, List.getElem?_cons_zero, List.getElem?_cons_succ, LdV_some, dec_int, dec_bool, Int.toNat_natCast, c0, c1, c2, c3, c4, c5, slotV]
      refine ⟨by omega, by trivial, Al_f rfl rfl fun p w3 r3 e3 z3 f3 => ?_⟩
      simp only [cond_false, List.getElem?_cons_zero, List.getElem?_cons_succ, LdV_some, dec_int, dec_bool, add_mk, Nat.zero_add, Nat.add_zero, r3.cell]
      rw [wrap_i64 (by omega) (by omega)]
      refine hnext _ _ ⟨i + 1, by omega, by simp, ?_⟩ (by simp only; omega)
      rw [live_skip hS]
      exact hQ _ _ _ hq f3
    | some b =>
      simp only [hlt', decide_true, cond_true, List.getElem?_cons_zero, List.getElem?_cons_succ, LdV_some, dec_int, dec_bool, Int.toNat_natCast, c0, c1, c2, c3, c4, c5, slotV]
      refine ⟨by omega, by trivial, Al_f rfl rfl fun p w3 r3 e3 z3 f3 => ?_⟩
      simp only [cond_true, List.getElem?_cons_zero, List.getElem?_cons_succ, LdV_some, dec_int, dec_bool, add_mk, Nat.zero_add, Nat.add_zero, r3.cell]
      obtain ⟨g1, g2⟩ := live_at hS
      refine callV_yield (hy (live 0 (S.take i)).length ((i : Int), (b.bd, b.st, b.un, b.ra, b.rp, ()), ()) w3 _ ?_ (hQ _ _ _ hq f3) ?_ ?_)
      · simp only [yS, List.getElem?_map, g1, Option.map_some]
      · intro W' hq'
        refine ⟨true, rfl, ?_⟩
        simp only [Bool.not_true, cond_false]
        rw [wrap_i64 (by omega) (by omega)]
        exact hnext _ _ ⟨i + 1, by omega, by simp, by rw [g2]; exact hq'⟩ (by simp only; omega)
      · intro W' hd
        refine ⟨false, rfl, ?_⟩
        simp only [Bool.not_false, cond_true]
        exact .inr hd
  · have hlt' : ¬ ((i : Int) < (most : Int)) := by omega
    simp only [hlt', decide_false, cond_false]
    rw [List.take_of_length_le (by omega)] at hq
    exact .inl hq

/-- A binding's sessions. -/
def ofL (S : Slots) (k : Int) : List (Int × Ses) := (live 0 S).filter fun x => x.2.bd == k

theorem ofL_ids (S : Slots) (k : Int) : (ofL S k).map (·.1) = ids S k := rfl

theorem of_iter (most : Nat) (S : Slots) (M : ByteArray → Option Int) (A : Adr) (f0 f1 : Nat) (k : Int) :
    IterFn2 Try.prog yK (Value.func (.func 62) #[] #[(Value.pointer (some ⟨f0, 0, none⟩)), (Value.pointer (some ⟨f1, 0, none⟩))])
      (fun W => Row W f0 [.pointer (some ⟨A.d, 0, none⟩)] ∧ Row W f1 [.int .i64 k] ∧ TA W A most S M) (yS (ofL S k)) := by
  refine ⟨by kernel_rfl, fun n w Q D hC hQ hD hy h0 => ?_⟩
  refine Calls.mono (ok_session_Table_Of_1 (a0 := .func (.yield n) #[] #[]) (f0 := ⟨f0, 0, none⟩) (f1 := ⟨f1, 0, none⟩) (K := fun w' => Q (yS (ofL S k)).length w' ∨ D w') ?_) (fun e w' h => h)
  unfold s_session_Table_Of_1
  have up : ∀ {i W W'}, Q i W → Ext W W' → Q i W' := fun hq hx => hQ _ _ _ hq (hx _)
  obtain ⟨r0, r1, h⟩ := hC _ _ h0
  have hl := h.len
  have hm := h.mx
  simp only [Ld_eq, List.getElem?_cons_zero, LdV_some, dec_ptr, r0.cell]
  refine cm_session_Table_ready (tready_ok h) ?_
  rintro _ w2 ⟨rfl, hw⟩
  subst hw
  have q2 := up h0 (Ext.drew _)
  obtain ⟨r0, r1, h⟩ := hC _ _ q2
  simp only [Bool.not_true, cond_false, ex_some, List.getElem?_cons_zero, List.getElem?_cons_succ, LdV_some, dec_int, dec_ptr, dec_map, add_mk, Nat.zero_add, r0.cell, r1.cell, h.hd.cell]
  refine h.own.get k ?_
  have hil := Gp.Ses.ids_len S k
  refine cm_slices_Clone_int_int (cloneI_ok ((h.own.buf k).sl eI_len (by omega)) (by omega)) ?_
  rintro s3 w3 ⟨f3, b3, n3⟩
  have q3 := up q2 f3
  have hyl : (yS (ofL S k)).length = (ofL S k).length := by simp [yS]
  have hol : (ofL S k).length = (ids S k).length := by rw [← ofL_ids, List.length_map]
  rw [hyl]
  have l3 := b3.len
  refine LoopP_inv (fun st W => ∃ i : Nat, i ≤ (ofL S k).length ∧ st.1 = (i : Int) ∧ Q i W ∧ BufN 1 eI W s3 (ids S k)) (fun st _ => (ofL S k).length - st.1.toNat) ⟨0, by omega, rfl, q3, b3⟩ ?_
  rintro ⟨x, ⟨⟩⟩ W ⟨i, hi, rfl, hq, hb⟩ next hnext
  obtain ⟨r0, r1, h⟩ := hC _ _ hq
  by_cases hlt : i < (ofL S k).length
  · have hlt' : ((i : Int) < (s3.len : Int)) := by omega
    have hS : (ofL S k)[i]? = some (ofL S k)[i] := List.getElem?_eq_getElem hlt
    generalize (ofL S k)[i] = y at hS
    obtain ⟨v, b⟩ := y
    have hv : (ids S k)[i]? = some v := by rw [← ofL_ids, List.getElem?_map, hS]; rfl
    obtain ⟨hmem, _⟩ := List.mem_filter.1 (List.mem_of_getElem? hS)
    obtain ⟨j, hj, hvj⟩ := Gp.Ses.mem_live.1 hmem
    have hvj : v = (j : Int) := by omega
    subst hvj
    have gl := (List.getElem?_eq_some_iff.1 hj).1
    have c : ∀ m, m < 6 → _ := h.slot hj
    have c0 := c 0 (by omega)
    have c1 := c 1 (by omega)
    have c2 := c 2 (by omega)
    have c3 := c 3 (by omega)
    have c4 := c 4 (by omega)
    simp only [Nat.add_zero, slotV, List.getElem?_cons_zero, List.getElem?_cons_succ] at c0 c1 c2 c3 c4
    rw [decide_eq_true hlt', cond_true]
    refine SlN_int (hb.sl eI_len (by omega)) hv fun a hc => ?_
    simp only [ex_some, List.getElem?_cons_zero, LdV_some, dec_slice, dec_int, dec_ptr, AtIx_some, add_mk, Nat.zero_add, Nat.add_zero, hc, r0.cell, h.hd.cell, Int.toNat_natCast, c0, c1, c2, c3, c4]
    refine ⟨by omega, by omega, ?_⟩
    refine callV_yield (hy i ((j : Int), (b.bd, b.st, b.un, b.ra, b.rp, ()), ()) W _ ?_ hq ?_ ?_)
    · simp only [yS, List.getElem?_map, hS, Option.map_some]
    · intro W' hq' hf
      refine ⟨true, rfl, ?_⟩
      simp only [Bool.not_true, cond_false]
      rw [wrap_i64 (by omega) (by omega)]
      refine hnext _ _ ⟨i + 1, by omega, by simp, hq', hb.fr hf fun c hc => ?_⟩ (by simp only; omega)
      have := n3 c hc
      have hz : w2.drew.heap.size = w2.heap.size := rfl
      omega
    · intro W' hd hf
      refine ⟨false, rfl, ?_⟩
      simp only [Bool.not_false, cond_true]
      exact .inr hd
  · have hlt' : ¬ ((i : Int) < (s3.len : Int)) := by omega
    rw [decide_eq_false hlt', cond_false]
    have : i = (ofL S k).length := by omega
    subst this
    exact .inl hq

theorem Al_mapF {α β : Type} {enc : α → Value} {ev : β → Value} {w : World} {K : Addr → World → Prop} (h : ∀ w1, MapF enc ev w1 w.heap.size [] → w1.heap.size = w.heap.size + 1 → Ext w w1 → K ⟨w.heap.size, 0, none⟩ w1) : Al w (.map #[] 0) K :=
  h _ (MapF.new w enc ev) (by simp) (fun S => Fr8.alloc w _ S)

theorem tnew_ok (n : Int) (w : World) : c_session_New n w fun p e w' => Ext w w' ∧ ((¬ (0 ≤ n ∧ n ≤ 4096) ∧ p = none ∧ e = 1) ∨ (0 ≤ n ∧ n ≤ 4096 ∧ e = 0 ∧ ∃ A, p = some ⟨A.d, 0, none⟩ ∧ (∀ x, fp A x → w.heap.size ≤ x) ∧ TA w' A n.toNat (List.replicate n.toNat none) (fun _ => none))) := by
  apply ok_session_New
  unfold s_session_New
  by_cases c1 : n < 0
  · simp only [c1, decide_true, cond_true]
    exact ⟨Ext.refl _, .inl ⟨by omega, by trivial, by trivial⟩⟩
  by_cases c2 : n > 4096
  · simp only [c1, c2, decide_true, decide_false, cond_true, cond_false]
    exact ⟨Ext.refl _, .inl ⟨by omega, by trivial, by trivial⟩⟩
  simp only [c1, c2, decide_false, cond_false]
  refine cm_hash_New (hnew_ok n w) ?_
  rintro p1 e1 w1 ⟨f1, (⟨_, _, rfl, ti, rfl, l1, t1⟩ | ⟨hbad, _, _⟩)⟩
  rotate_left
  · omega
  simp only [show ((0 : Int) != 0) = false from rfl, cond_false]
  refine MkSl_row (by omega) (by omega) (by omega) (by omega) fun sl w3 r3 e3 z3 f3 => ?_
  refine Al_mapF (enc := encI) (ev := slV) fun w4 m4 z4 f4 => ?_
  refine Al_e fun d w5 r5 e5 z5 f5 => ?_
  obtain ⟨m, rfl⟩ : ∃ m : Nat, n = (m : Int) := ⟨n.toNat, by omega⟩
  simp only [Int.toNat_natCast] at r3 r5 ⊢
  have f1 : Ext w w1 := f1
  have f3 : Ext w1 w3 := f3
  have x5 : Ext w w5 := (f1.trans f3).trans (f4.trans f5)
  have i1 := t1.ht.hd.lt
  have s1 := f1.size
  have live_rep : ∀ (k j : Nat), live j (List.replicate k none) = [] := by
    intro k
    induction k with
    | zero => intro j; rfl
    | succ k ih => intro j; rw [List.replicate_succ, live]; exact ih _
  have ids_rep : ∀ k j, ids (List.replicate k none) j = [] := fun k j => by unfold ids; rw [live_rep]; rfl
  have rep : ∀ k, repCells [Value.int .i64 0, Value.int .i64 0, Value.int .i64 0, Value.int .i64 0, Value.int .i64 0, Value.bool false] k = (List.replicate k (none : Option Ses)).flatMap slotV := by
    intro k
    induction k with
    | zero => rfl
    | succ k ih => rw [repCells, ih, List.replicate_succ, List.flatMap_cons]; rfl
  have noB : ∀ x, ¬ ownB [] x := fun x ⟨k, s, hk, _⟩ => by cases hk
  refine ⟨x5, .inr ⟨by omega, by omega, by trivial, ⟨d, sl, ti, ti, w3.heap.size, []⟩, rfl, ?_, ?_⟩⟩
  · intro x hx
    rcases hx with hx | hx | hx | hx | hx | hx
    · simp only at hx; omega
    · simp only at hx; omega
    · simp only at hx; omega
    · simp only at hx; omega
    · simp only at hx; omega
    · exact absurd hx (noB x)
  · refine ⟨?_, ?_, by simp, by omega, ⟨[], ?_, ?_⟩, ⟨?_, ?_, ?_, ?_, ?_, ?_⟩, ⟨fun k v => ?_, fun j b hb => ?_⟩, ⟨?_, fun x hx => absurd hx (noB x)⟩⟩
    · rw [live_rep]; exact r5
    · rw [← rep]; exact (r3.ext f4).ext f5
    · exact t1.frn (f3.trans (f4.trans f5))
    · rw [live_rep]; rfl
    · exact MapF.ext (m4) f5
    · simp
    · intro k s hk; cases hk
    · intro k _; exact ids_rep _ _
    · intro k k' s s' b _ hk; cases hk
    · intro b hb; exact absurd hb (noB b)
    · constructor
      · intro h; cases h
      · rintro ⟨j, b, hj, _⟩
        rw [List.getElem?_replicate] at hj
        split at hj <;> simp at hj
    · rw [List.getElem?_replicate] at hb
      split at hb <;> simp at hb
    · refine ⟨?_, ?_, ?_, ?_, ?_, ?_, ?_, ?_, ?_⟩ <;> simp only <;> omega
end
end Go.Proofs
