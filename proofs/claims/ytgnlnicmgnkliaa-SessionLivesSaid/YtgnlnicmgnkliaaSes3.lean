import Derived.Test.YtgnlnicmgnkliaaSes2
/- Sessions in memory: they are changed. -/
namespace Go.Proofs
open Gp Gp.Hash
open Gp.Ses (Ses Slots live GoodS freeN getS ids)
open Gp.Bind (In64)
set_option maxRecDepth 100000

section
variable {w w' : World} {A : Adr} {most : Nat} {S : Slots} {M : ByteArray → Option Int}

def addS (S : Slots) (M : ByteArray → Option Int) (b : Ses) : Int × Int :=
  if (M (Bind.keyS b.k)).isSome then (0, 9) else match freeN S with
    | none => (0, 7)
    | some i => ((i : Int), 0)

theorem tset_ok (h : TA w A most S M) (id st un : Int) :
    c_session_Table_Set (some ⟨A.d, 0, none⟩) id st un w fun r w' => r = (getS S id).isSome ∧ Fr8 w w' (fp A) ∧ ∃ S', TA w' A most S' M ∧ S' = (match getS S id with | none => S | some b => S.set id.toNat (some { b with st := st, un := un })) := by
  apply ok_session_Table_Set
  unfold s_session_Table_Set
  have hl := h.len
  refine cm_session_Table_has (thas_ok h id) ?_
  rintro _ w1 ⟨rfl, hw⟩
  subst hw
  cases hg : getS S id with
  | none =>
    simp only [Option.isSome_none, Bool.not_false, cond_true]
    exact ⟨by trivial, Fr8.refl _ _, S, h, rfl⟩
  | some b =>
    obtain ⟨g0, g1⟩ := Gp.Ses.getS_some.1 hg
    have gl := (List.getElem?_eq_some_iff.1 g1).1
    simp only [Option.isSome_some, Bool.not_true, cond_false, ex_some, Ld_eq, List.getElem?_cons_zero, LdV_some, dec_slice, AtIx_some, add_mk, Nat.zero_add, h.hd.cell]
    refine ⟨by omega, by omega, ?_⟩
    have hrow := h.row
    have e0 : S.flatMap slotV = (S.flatMap slotV).take (id.toNat * 6) ++ slotV (some b) ++ (S.flatMap slotV).drop (id.toNat * 6 + 6) := by
      have hself : S.set id.toNat (some b) = S := by
        apply List.ext_getElem?
        intro j
        rw [Gp.Ses.get_set gl]
        split
        · rename_i e; subst e; exact g1.symm
        · rfl
      rw [flat_set6 gl, hself]
    have hl6 : ((S.flatMap slotV).take (id.toNat * 6)).length = id.toNat * 6 := by rw [List.length_take, flat_len slotV 6 slotV_len]; omega
    rw [e0] at hrow
    refine St_row hrow rfl (by simp [slotV_len, hl6]; omega) fun w2 r2 f2 z2 => ?_
    refine St_row r2 rfl (by simp [slotV_len, hl6]; omega) fun w3 r3 f3 z3 => ?_
    have f23 : Fr8 w1 w3 (· = A.sl) := (f2 (· = A.sl) rfl).trans (f3 (· = A.sl) rfl) fun _ _ e => e
    refine ⟨by trivial, f23.mono fun x hx => .inr (.inl hx), _, ?_, rfl⟩
    obtain ⟨⟨n1, n2, n3, n4, n5, n6, n7, n8, n9⟩, no⟩ := h.ne
    obtain ⟨L, t, c⟩ := h.tb
    have hlive : (live 0 (S.set id.toNat (some { b with st := st, un := un }))).length = (live 0 S).length := by rw [Gp.Ses.live_put _ 0 g1]; simp
    refine ⟨by rw [hlive]; exact h.hd.fr f23 n1, ?_, by rw [List.length_set]; exact hl, h.mx, ⟨L, t.fr f23 (Ne.symm n5) (Ne.symm n6), by rw [hlive]; exact c⟩, ?_, h.good.put g1 rfl, h.ne⟩
    · rw [← flat_set6 gl]
      have e3 : ∀ (X Y : List Value), ((X ++ slotV (some b) ++ Y).set (X.length + 1) (.int .i64 st)).set (X.length + 2) (.int .i64 un) = X ++ slotV (some { b with st := st, un := un }) ++ Y := by
        intro X Y
        rw [List.append_assoc, List.set_append_right _ _ (by omega), List.set_append_right _ _ (by omega), List.append_assoc]
        congr 1
        rw [Nat.add_sub_cancel_left, Nat.add_sub_cancel_left]
        rfl
      have := e3 ((S.flatMap slotV).take (id.toNat * 6)) ((S.flatMap slotV).drop (id.toNat * 6 + 6))
      rw [hl6] at this
      rw [← this]
      exact r3
    · have o := h.own.fr f23 (fun e => n7 e.symm) fun x hx e => (no x hx).2.1 e
      exact ⟨o.mp, o.nd, fun k s hk => by rw [Gp.Ses.ids_put (b' := { b with st := st, un := un }) g1 rfl]; exact o.has k s hk, fun k hk => by rw [Gp.Ses.ids_put (b' := { b with st := st, un := un }) g1 rfl]; exact o.non k hk, o.ap, o.ne⟩

theorem tadd_ok (h : TA w A most S M) (b : Ses) (hb : b.ok) :
    c_session_Table_Add (some ⟨A.d, 0, none⟩) b.bd b.st b.un b.ra b.rp w fun n e w' => (n, e) = addS S M b ∧ Fr8 w w' (fp A) ∧
      ∃ A' S' M', TA w' A' most S' M' ∧ A'.d = A.d ∧ (∀ x, fp A' x → fp A x ∨ w.heap.size ≤ x) ∧ S' = (if (addS S M b).2 = 0 then S.set (addS S M b).1.toNat (some b) else S) := by
  apply ok_session_Table_Add
  unfold s_session_Table_Add
  refine Al_e fun p w1 r1 e1 z1 f1 => ?_
  have h1 := h.ext f1
  refine cm_session_Table_ready (tready_ok h1) ?_
  rintro _ w2 ⟨rfl, hw⟩
  subst hw
  simp only [Bool.not_true, cond_false, ex_some, Ld_eq, List.getElem?_cons_zero, List.getElem?_cons_succ, LdV_some, dec_int, add_mk, Nat.zero_add, Nat.add_zero, r1.cell]
  refine cm_session_Table_Find (tfind_ok h1 _ _ _ hb) ?_
  rintro n2 t2 w3 ⟨ht2, _, f3⟩
  have ht2 : t2 = (M (Bind.keyS b.k)).isSome := ht2
  have x3 : Ext w w3 := f1.trans f3
  have h3 := h.ext x3
  have r3 := r1.ext f3
  cases htt : t2 with
  | true =>
    rw [htt] at ht2
    simp only [cond_true]
    have e : addS S M b = (0, 9) := by unfold addS; rw [← ht2]; rfl
    rw [e]
    exact ⟨rfl, x3 _, A, S, M, h3, rfl, fun x hx => .inl hx, by rw [if_neg (by simp)]⟩
  | false =>
  rw [htt] at ht2
  simp only [cond_false, List.getElem?_cons_zero, LdV_some, dec_slice, h3.hd.cell]
  refine cm_slices_IndexFunc_session_slot_session_slot (islot_ok h3) ?_
  rintro r5 w5 ⟨f5, (⟨hfr, rfl⟩ | ⟨i, hfr, rfl⟩)⟩
  · simp only [show decide ((-1 : Int) < 0) = true from rfl, cond_true]
    have e : addS S M b = (0, 7) := by unfold addS; rw [← ht2, hfr]; rfl
    rw [e]
    exact ⟨rfl, (x3.trans f5) _, A, S, M, h3.ext f5, rfl, fun x hx => .inl hx, by rw [if_neg (by simp)]⟩
  · have e : addS S M b = ((i : Int), 0) := by unfold addS; rw [← ht2, hfr]; rfl
    rw [e]
    obtain ⟨g1, g2, g3, g4, g5, g6, g7⟩ := Gp.Ses.freeN_some 0 hfr
    have hm := h.mx
    have hl := h.len
    have x5 : Ext w w5.drew := (x3.trans f5).trans (Ext.drew _)
    have h5 := h.ext x5
    have r5 := (r3.ext f5).drew
    have i0 : ¬ ((i : Int) < 0) := by omega
    simp only [i0, decide_false, cond_false, List.getElem?_cons_zero, List.getElem?_cons_succ, LdV_some, dec_slice, dec_int, AtIx_some, add_mk, Nat.zero_add, h5.hd.cell, r5.cell, Int.toNat_natCast]
    refine ⟨by omega, by omega, ?_⟩
    refine St_slot h5.row g1 (some b) fun w6 row6 f6 z6 => ?_
    obtain ⟨⟨n1, n2, n3, n4, n5, n6, n7, n8, n9⟩, no⟩ := h.ne
    have hp : ∀ x, fp A x → x ≠ p := fun x hx => by have := h.lt hx; omega
    have hd6 := (h5.hd.fr f6 n1).drew
    have r6 := (r5.fr f6 (hp _ (.inr (.inl rfl))).symm).drew
    simp only [List.getElem?_cons_zero, List.getElem?_cons_succ, LdV_some, dec_int, dec_ptr, hd6.cell, r6.cell]
    refine cm_session_key (skey_ok _ _ _ hb _) ?_
    rintro _ w7 ⟨rfl, f7⟩
    have hd7 := hd6.ext f7
    have r7 := r6.ext f7
    simp only [true_and, List.getElem?_cons_zero, List.getElem?_cons_succ, hd7.cell]
    obtain ⟨L, tb, cL⟩ := h5.tb
    have f57 : Fr8 w5.drew w7 (· = A.sl) := (f6.ext (Ext.drew _)).ext f7
    have tb7 := tb.fr f57 (Ne.symm n5) (Ne.symm n6)
    have hM : M (Bind.keyS b.k) = none := by cases hx : M (Bind.keyS b.k) with
      | none => rfl
      | some v => rw [hx] at ht2; cases ht2
    refine cm_hash_Table_Put (hput_ok tb7 (Bind.keyS b.k) (i : Int) (keyS_size _ (by simp [Ses.k]))) ?_
    rintro e8 w8 (⟨rfl, hlt8, s8, L8, t8, c8, f8, hs8⟩ | ⟨_, _, hbad, _⟩)
    rotate_left
    · exfalso; rw [cL] at hbad; omega
    have hd8 := (hd7.fr f8 (by rintro (h | h); exact n2 h; exact n3 h)).drew
    have r8 : Row w8.drew p _ := (r7.fr f8 (by rintro (h | h); exact hp _ (.inr (.inr (.inl rfl))) h.symm; exact hp _ (.inr (.inr (.inr (.inl rfl)))) h.symm)).drew
    simp only [List.getElem?_cons_zero, List.getElem?_cons_succ, LdV_some, dec_int, dec_map, hd8.cell, r8.cell]
    have f58 : Fr8 w5.drew w8.drew (fun x => x = A.sl ∨ x = A.ti ∨ x = A.si) := ((f57.mono fun x hx => .inl hx).trans f8 fun x _ hx => by
      rcases hx with hx | hx
      · exact .inr (.inl hx)
      · exact .inr (.inr hx)).ext (Ext.drew _)
    have own8 : OwnM w8.drew A.m A.l S := h5.own.fr f58 (by rintro (h | h | h); exact n7 h.symm; exact n8 h.symm; exact n9 h.symm) fun x hx => by
      have := no x hx
      rintro (h | h | h)
      · exact this.2.1 h
      · exact this.2.2.1 h
      · exact this.2.2.2 h
    refine own8.get b.bd ?_
    have hbuf := own8.buf b.bd
    have hil := Gp.Ses.ids_len S b.bd
    have srt := Gp.Ses.ids_sorted S b.bd
    refine cm_slices_BinarySearch_int_int (bsI_ok (hbuf.sl eI_len (by omega)) (by omega) srt (i : Int)) ?_
    rintro _ _ w9 ⟨⟨q, rfl, hq, q1, q2⟩, hw⟩
    subst hw
    have own9 := own8.fr (Ext.drew _ fun _ => False) (by simp) (by simp)
    have hd9 := hd8.drew
    have r9 := r8.drew
    simp only [List.getElem?_cons_zero, List.getElem?_cons_succ, LdV_some, dec_int, dec_map, hd9.cell, r9.cell]
    refine Al_e fun v w10 r10 e10 z10 f10 => ?_
    have own10 := own9.fr (f10 fun _ => False) (by simp) (by simp)
    have hd10 := hd9.ext f10
    have r10p := r9.ext f10
    simp only [true_and, List.getElem?_cons_zero, List.getElem?_cons_succ, hd10.cell, r10p.cell]
    have vlt : ∀ x, SliceV.at (lkS A.l b.bd) x → x ≠ v := fun x hx e => by
      obtain ⟨s, g1, _, g2⟩ := lkS_at hx
      have := own9.lt ⟨_, s, g1, g2⟩
      omega
    have lold : ∀ x, SliceV.at (lkS A.l b.bd) x → ownB A.l x := fun x hx => by
      obtain ⟨s, g1, _, g2⟩ := lkS_at hx
      exact ⟨_, s, g1, g2⟩
    refine cm_slices_Insert_int_int (insert_ok (own10.buf b.bd) (y := (i : Int)) r10 vlt hq (by omega)) ?_
    rintro s11 w11 ⟨b11, f11, n11⟩
    have hd11 := hd10.fr f11 fun hx => (no _ (lold _ hx)).1 rfl
    have r11 := r10p.fr f11 fun hx => hp _ (.inr (.inr (.inr (.inr (.inr (lold _ hx)))))) rfl
    simp only [true_and, List.getElem?_cons_zero, List.getElem?_cons_succ, hd11.cell, r11.cell]
    rw [← Gp.Ses.ids_add g2 (fun j v hj hv => q1 j v hj hv) (fun j v hj hv => q2 j v hj hv) hq] at b11
    refine own10.set (S' := S.set i (some b)) f11 (fun hx => own10.ne _ (lold _ hx) rfl) (fun x _ hx => hx) b11 n11 (fun k hk => Gp.Ses.ids_add_other g2 hk) fun w12 own12 f12 z12 => ?_
    have hd12 := hd11.fr f12 n4
    simp only [List.getElem?_cons_zero, List.getElem?_cons_succ, LdV_some, dec_int, hd12.cell]
    have hll := Gp.Ses.live_len_le S 0
    rw [wrap_i64 (by omega) (by omega)]
    refine St_row hd12 rfl (by simp) fun w13 hd13 f13 z13 => ?_
    simp only [List.set_cons_zero, List.set_cons_succ] at hd13
    have f13d := f13 (· = A.d) rfl
    have hlen' : (live 0 (S.set i (some b))).length = (live 0 S).length + 1 := by
      rw [g7 b]
      simp only [List.length_append, List.length_cons, List.length_take, List.length_drop]; omega
    have f8x : Fr8 w8 w12 (fun x => x = A.m ∨ ownB A.l x) := ((((Ext.drew w8).trans (Ext.drew _)).trans f10) _).trans ((f11.mono fun x hx => .inr (lold x hx)).trans f12 fun x _ hx => .inl hx) fun _ _ hx => hx
    have hs8' : s8 ≠ A.d ∧ s8 ≠ A.sl ∧ s8 ≠ A.m ∧ ¬ ownB A.l s8 := by
      rcases hs8 with h8 | h8
      · rw [h8]; exact ⟨Ne.symm n3, Ne.symm n6, n9, fun ho => (no _ ho).2.2.2 rfl⟩
      · have big : ∀ x, fp A x → s8 ≠ x := fun x hx e => by
          have l1 := h.lt hx
          have l2 : w.heap.size ≤ w7.heap.size := Nat.le_trans x5.size f57.size
          rw [e] at h8; exact Nat.lt_irrefl _ (Nat.lt_of_lt_of_le l1 (Nat.le_trans l2 h8))
        exact ⟨big _ (.inl rfl), big _ (.inr (.inl rfl)), big _ (.inr (.inr (.inr (.inr (.inl rfl))))), fun ho => big _ (.inr (.inr (.inr (.inr (.inr ho))))) rfl⟩
    have tb13 : TB w13 A.ti s8 L8 most (Go.Proofs.upd M (Bind.keyS b.k) (some (i : Int))) := (t8.fr f8x (by rintro (h | h); exact n8 h; exact (no _ h).2.2.1 rfl) (by rintro (h | h); exact hs8'.2.2.1 h; exact hs8'.2.2.2 h)).fr f13d (Ne.symm n2) hs8'.1
    have row13 : Row w13 A.sl ((S.set i (some b)).flatMap slotV) := (((((row6.ext (Ext.drew _)).ext f7).fr f8 (by rintro (h | h); exact n5 h; exact n6 h))).fr f8x (by rintro (h | h); exact n7 h; exact (no _ h).2.1 rfl)).fr f13d (Ne.symm n1)
    have eu : ∀ M k v, Go.Proofs.upd M k v = Gp.Bind.upd M k v := fun _ _ _ => rfl
    rw [eu] at tb13
    have f512 : Fr8 w w12 (fp A) := ((x5 (fp A)).trans (f58.mono (S' := fp A) fun x hx => by
        rcases hx with hx | hx | hx
        · exact .inr (.inl hx)
        · exact .inr (.inr (.inl hx))
        · exact .inr (.inr (.inr (.inl hx)))) fun _ _ hx => hx).trans (((((Ext.drew w8.drew).trans f10) _).trans ((f11.mono (S' := fun x => x = A.m ∨ ownB A.l x) fun x hx => .inr (lold x hx)).trans f12 fun x _ hx => .inl hx) fun _ _ hx => hx)) fun x _ hx => by
        rcases hx with hx | hx
        · exact .inr (.inr (.inr (.inr (.inl hx))))
        · exact .inr (.inr (.inr (.inr (.inr hx))))
    have ftot : Fr8 w w13 (fp A) := f512.trans f13d fun x _ hx => .inl hx
    have s11new : ∀ x, SliceV.at s11 x → ownB A.l x ∨ (w.heap.size ≤ x ∧ w8.heap.size ≤ x) := fun x hx => by
      rcases n11 x hx with h | h
      · exact .inl (lold x h)
      · right
        have a1 : w5.drew.heap.size ≤ w8.heap.size := f58.size
        have a2 : w8.heap.size ≤ w10.heap.size := (((Ext.drew w8).trans (Ext.drew _)).trans f10).size
        exact ⟨Nat.le_trans x5.size (Nat.le_trans a1 (Nat.le_trans a2 h)), Nat.le_trans a2 h⟩
    have own13 : OwnM w13 A.m (upF A.l b.bd s11) (S.set i (some b)) := own12.fr f13d n4.symm fun x hx e => by
      rcases ownB_up hx with h1 | h1
      · rcases s11new x h1 with h2 | h2
        · exact (no x h2).1 e
        · have := h.lt (.inl rfl : fp A A.d); omega
      · exact (no x h1).1 e
    have ta : TA w13 ⟨A.d, A.sl, A.ti, s8, A.m, upF A.l b.bd s11⟩ most (S.set i (some b)) (Gp.Bind.upd M (Bind.keyS b.k) (some (i : Int))) := by
      refine ⟨?_, row13, by rw [List.length_set]; exact hl, hm, ⟨L8, tb13, ?_⟩, own13, h.good.add g2 hb hM, ⟨⟨n1, n2, Ne.symm hs8'.1, n4, n5, Ne.symm hs8'.2.1, n7, n8, hs8'.2.2.1⟩, fun x hx => ?_⟩⟩
      · rw [hlen']; simpa using hd13
      · rw [c8, hlen', hM, cL]; rfl
      · rcases ownB_up hx with h1 | h1
        · rcases s11new x h1 with h2 | ⟨h2, h4⟩
          · have := no x h2
            exact ⟨this.1, this.2.1, this.2.2.1, fun e => hs8'.2.2.2 ((show x = s8 from e) ▸ h2)⟩
          · have k1 := h.lt (.inl rfl : fp A A.d)
            have k2 := h.lt (.inr (.inl rfl) : fp A A.sl)
            have k3 := h.lt (.inr (.inr (.inl rfl)) : fp A A.ti)
            have k4 := tb_lt t8
            exact ⟨fun e => by rw [e] at h2; exact Nat.lt_irrefl _ (Nat.lt_of_lt_of_le k1 h2), fun e => by rw [e] at h2; exact Nat.lt_irrefl _ (Nat.lt_of_lt_of_le k2 h2), fun e => by rw [e] at h2; exact Nat.lt_irrefl _ (Nat.lt_of_lt_of_le k3 h2), fun e => by rw [e] at h4; exact Nat.lt_irrefl _ (Nat.lt_of_lt_of_le k4 h4)⟩
        · have := no x h1
          exact ⟨this.1, this.2.1, this.2.2.1, fun e => hs8'.2.2.2 ((show x = s8 from e) ▸ h1)⟩
    refine ⟨ftot, _, _, _, ta, rfl, ?_, by simp⟩
    intro x hx
    rcases hx with hx | hx | hx | hx | hx | hx
    · exact .inl (.inl hx)
    · exact .inl (.inr (.inl hx))
    · exact .inl (.inr (.inr (.inl hx)))
    · have hx : x = s8 := hx
      rcases hs8 with h8 | h8
      · exact .inl (.inr (.inr (.inr (.inl (hx.trans h8)))))
      · right
        rw [hx]; exact Nat.le_trans x5.size (Nat.le_trans f57.size h8)
    · exact .inl (.inr (.inr (.inr (.inr (.inl hx)))))
    · rcases ownB_up hx with h1 | h1
      · rcases s11new x h1 with h2 | h2
        · exact .inl (.inr (.inr (.inr (.inr (.inr h2)))))
        · exact .inr h2.1
      · exact .inl (.inr (.inr (.inr (.inr (.inr h1)))))
end
end Go.Proofs
