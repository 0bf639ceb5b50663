import Derived.Test.YtgnlnicmgnkliaaBind
/- Bindings in slots, part two. -/
namespace Go.Proofs
open Gp Gp.Hash
open Gp.Bind (Bnd Slots live GoodB freeN getS In64)
set_option maxRecDepth 100000

section
variable {w w' : World} {A : Adr} {most : Nat} {S : Slots} {Mi Mo : ByteArray → Option Int}

theorem getS_out {S : Slots} {id : Int} (h : id < 0 ∨ (S.length : Int) ≤ id) : getS S id = none := by
  unfold Gp.Bind.getS
  split
  · rw [List.getElem?_eq_none (by omega)]; rfl
  · rfl

theorem getS_in {S : Slots} {id : Int} (h0 : 0 ≤ id) {o : Option Bnd} (h : S[id.toNat]? = some o) : getS S id = o := by
  unfold Gp.Bind.getS
  rw [if_pos h0, h]; rfl

theorem dhas_ok (h : DB w A most S Mi Mo) (id : Int) : c_bind_DB_has (some ⟨A.d, 0, none⟩) id w fun r w' => r = (getS S id).isSome ∧ w' = w := by
  apply ok_bind_DB_has
  unfold s_bind_DB_has
  have hl := h.len
  refine cm_bind_DB_ready (dready_ok h) ?_
  rintro _ w2 ⟨rfl, hw⟩
  subst hw
  simp only [cond_true]
  by_cases c1 : id ≥ 0
  · simp only [c1, decide_true, cond_true, ex_some, Ld_eq, List.getElem?_cons_zero, LdV_some, dec_slice, AtIx_some, add_mk, Nat.zero_add, h.hd.cell]
    by_cases c2 : id < (most : Int)
    · have hS : S[id.toNat]? = some S[id.toNat] := List.getElem?_eq_getElem (by omega)
      generalize S[id.toNat] = o at hS
      simp only [c2, decide_true, cond_true, LdV_some, dec_bool, h.slot hS 8 (by omega), slotV_used]
      refine ⟨by first | trivial | omega, by first | trivial | omega, ?_, by trivial⟩
      rw [getS_in c1 hS]
    · simp only [c2, decide_false, cond_false]
      exact ⟨by rw [getS_out (.inr (by omega))]; rfl, by trivial⟩
  · simp only [c1, decide_false, cond_false]
    exact ⟨by rw [getS_out (.inl (by omega))]; rfl, by trivial⟩

/-- The results are this binding. -/
def BndR (b : Bnd) (a1 a2 a3 a4 a5 a6 a7 : Int) (a8 : Bool) : Prop := a1 = b.sw ∧ a2 = b.pr ∧ a3 = b.ad ∧ a4 = b.po ∧ a5 = b.opr ∧ a6 = b.oad ∧ a7 = b.opo ∧ a8 = b.st

def Bnd0 : Bnd := ⟨0, 0, 0, 0, 0, 0, 0, false⟩

theorem dget_ok (h : DB w A most S Mi Mo) (id : Int) : c_bind_DB_Get (some ⟨A.d, 0, none⟩) id w fun a1 a2 a3 a4 a5 a6 a7 a8 r w' => r = (getS S id).isSome ∧ BndR ((getS S id).getD Bnd0) a1 a2 a3 a4 a5 a6 a7 a8 ∧ Ext w w' := by
  apply ok_bind_DB_Get
  unfold s_bind_DB_Get
  have hl := h.len
  refine Al_e fun p w1 r1 e1 z1 f1 => ?_
  have h1 := h.ext f1
  refine cm_bind_DB_has (dhas_ok h1 id) ?_
  rintro _ w2 ⟨rfl, hw⟩
  subst hw
  cases hg : getS S id with
  | none =>
    simp only [Option.isSome_none, Bool.not_false, cond_true]
    refine StN_full r1 rfl rfl fun w3 r3 f3 _ => ?_
    simp only [true_and, Ld_eq, List.getElem?_cons_zero, List.getElem?_cons_succ, LdV_some, dec_int, dec_bool, add_mk, Nat.zero_add, Nat.add_zero, r3.cell]
    exact ⟨⟨rfl, rfl, rfl, rfl, rfl, rfl, rfl, rfl⟩, f1.new (f3 (· = p) rfl) fun y hy e => by omega⟩
  | some b =>
    obtain ⟨g0, g1⟩ := Gp.Bind.getS_some.1 hg
    have gl := (List.getElem?_eq_some_iff.1 g1).1
    have c : ∀ j, j < 9 → _ := h1.slot g1
    have c0 := c 0 (by omega)
    have c1 := c 1 (by omega)
    have c2 := c 2 (by omega)
    have c3 := c 3 (by omega)
    have c4 := c 4 (by omega)
    have c5 := c 5 (by omega)
    have c6 := c 6 (by omega)
    have c7 := c 7 (by omega)
    simp only [Nat.add_zero] at c0
    simp only [Option.isSome_some, Bool.not_true, cond_false, ex_some, Ld_eq, List.getElem?_cons_zero, List.getElem?_cons_succ, LdV_some, dec_slice, dec_int, dec_bool, AtIx_some, add_mk, Nat.zero_add, Nat.add_zero, h1.hd.cell, c0, c1, c2, c3, c4, c5, c6, c7, slotV]
    refine ⟨by omega, by omega, StN_full r1 rfl rfl fun w3 r3 f3 _ => ?_⟩
    simp only [true_and, List.getElem?_cons_zero, List.getElem?_cons_succ, LdV_some, dec_int, dec_bool, r3.cell]
    exact ⟨⟨rfl, rfl, rfl, rfl, rfl, rfl, rfl, rfl⟩, f1.new (f3 (· = p) rfl) fun y hy e => by omega⟩

theorem dremove_ok (h : DB w A most S Mi Mo) (id : Int) (hlt : ∀ x, fp A x → x < w.heap.size) :
    c_bind_DB_Remove (some ⟨A.d, 0, none⟩) id w fun r w' => r = (getS S id).isSome ∧ Fr8 w w' (fp A) ∧ ∃ Mi' Mo', DB w' A most (if (getS S id).isSome then S.set id.toNat none else S) Mi' Mo' := by
  apply ok_bind_DB_Remove
  unfold s_bind_DB_Remove
  have hl := h.len
  have hm := h.mx
  refine cm_bind_DB_has (dhas_ok h id) ?_
  rintro _ w1 ⟨rfl, hw⟩
  subst hw
  cases hg : getS S id with
  | none =>
    simp only [Option.isSome_none, Bool.not_false, cond_true]
    exact ⟨by trivial, Fr8.refl _ _, Mi, Mo, by simpa using h⟩
  | some b =>
    obtain ⟨g0, g1⟩ := Gp.Bind.getS_some.1 hg
    have gl := (List.getElem?_eq_some_iff.1 g1).1
    have hb := h.good.ok _ _ g1
    have c : ∀ j, j < 9 → _ := h.slot g1
    have c0 := c 0 (by omega)
    have c1 := c 1 (by omega)
    have c2 := c 2 (by omega)
    have c3 := c 3 (by omega)
    have c4 := c 4 (by omega)
    have c5 := c 5 (by omega)
    have c6 := c 6 (by omega)
    have c7 := c 7 (by omega)
    have c8 := c 8 (by omega)
    simp only [Nat.add_zero] at c0
    simp only [Option.isSome_some, Bool.not_true, cond_false, ex_some, Ld_eq, List.getElem?_cons_zero, List.getElem?_cons_succ, LdV_some, dec_slice, dec_int, dec_bool, AtIx_some, add_mk, Nat.zero_add, Nat.add_zero, h.hd.cell, c0, c1, c2, c3, c4, c5, c6, c7, c8, slotV]
    refine ⟨by omega, by omega, Al_f rfl rfl fun p w2 r2 e2 z2 f2 => ?_⟩
    have x2 : Ext w1 w2.drew := f2.trans (Ext.drew _)
    have h2 := h.ext x2
    have r2d := r2.drew
    simp only [List.getElem?_cons_zero, List.getElem?_cons_succ, LdV_some, dec_int, dec_ptr, add_mk, Nat.zero_add, Nat.add_zero, h2.hd.cell, r2d.cell]
    refine cm_bind_innerKey (ikey_ok _ _ _ _ hb.1 _) ?_
    rintro _ w3 ⟨rfl, f3⟩
    have h3 := h2.ext f3
    have r3 := r2d.ext f3
    simp only [true_and, List.getElem?_cons_zero, List.getElem?_cons_succ, h3.hd.cell]
    obtain ⟨LI, tI, cI⟩ := h3.tI
    obtain ⟨n1, n2, n3, n4, n5, n6, n7, n8, n9, n10, n11, n12, n13⟩ := h.ne
    have hp : ∀ x, fp A x → x ≠ p := fun x hx e => by have := hlt x hx; rw [e, e2] at this; exact Nat.lt_irrefl _ this
    refine cm_hash_Table_Delete (hdelete_ok tI (Bind.keyS b.i) (keyS_size _ (by simp [Bnd.i]))) ?_
    rintro _ w4 ⟨_, ⟨L4, t4, c4'⟩, f4⟩
    have hMi : Mi (Bind.keyS b.i) = some (id.toNat : Int) := (h.good.i _ _).2 ⟨_, b, g1, rfl, rfl⟩
    have hMo : Mo (Bind.keyS b.o) = some (id.toNat : Int) := (h.good.o _ _).2 ⟨_, b, g1, rfl, rfl⟩
    have hd4 := (h3.hd.fr f4 (by rintro (h | h); exact n2 h; exact n3 h)).drew
    have r4 : Row w4.drew p _ := (r3.fr f4 (by rintro (h | h); exact hp _ (.inr (.inr (.inl rfl))) h.symm; exact hp _ (.inr (.inr (.inr (.inl rfl)))) h.symm)).drew
    simp only [List.getElem?_cons_zero, List.getElem?_cons_succ, LdV_some, dec_int, dec_ptr, hd4.cell, r4.cell]
    refine cm_bind_outerKey (okey_ok _ _ _ hb.2 _) ?_
    rintro _ w5 ⟨rfl, f5⟩
    have hd5 := hd4.ext f5
    simp only [true_and, List.getElem?_cons_zero, List.getElem?_cons_succ, hd5.cell]
    have f45 : Fr8 w3 w5 (fun x => x = A.ti ∨ x = A.si) := (f4.ext (Ext.drew _)).ext f5
    obtain ⟨LO, tO, cO⟩ := h3.tO
    have tO5 := tO.fr f45 (by rintro (h | h); exact n10 h.symm; exact n12 h.symm) (by rintro (h | h); exact n11 h.symm; exact n13 h.symm)
    have tI5 := (t4.frn (Ext.drew _)).frn f5
    refine cm_hash_Table_Delete (hdelete_ok tO5 (Bind.keyS b.o) (keyS_size _ (by simp [Bnd.o]))) ?_
    rintro _ w6 ⟨_, ⟨L6, t6, c6'⟩, f6⟩
    have hd6 := hd5.fr f6 (by rintro (h | h); exact n4 h; exact n5 h)
    have row6 : Row w6 A.sl (S.flatMap slotV) := ((h3.row.fr f45 (by rintro (h | h); exact n6 h; exact n7 h)).fr f6 (by rintro (h | h); exact n8 h; exact n9 h))
    simp only [List.getElem?_cons_zero, LdV_some, dec_slice, AtIx_some, add_mk, Nat.zero_add, hd6.cell]
    refine ⟨by omega, by omega, ?_⟩
    refine St_slot row6 gl none fun w7 row7 f7 z7 => ?_
    have hd7 := hd6.fr f7 n1
    simp only [List.getElem?_cons_zero, List.getElem?_cons_succ, LdV_some, dec_int, hd7.cell]
    have hlen := Gp.Bind.live_remove_len 0 g1
    have hll := Gp.Bind.live_len_le S 0
    rw [wrap_i64 (by omega) (by omega)]
    refine St_row hd7 rfl (by simp) fun w8 hd8 f8 z8 => ?_
    simp only [List.set_cons_zero, List.set_cons_succ] at hd8
    have f8d := f8 (· = A.d) rfl
    have eu : ∀ M k v, Go.Proofs.upd M k v = Gp.Bind.upd M k v := fun _ _ _ => rfl
    have tI8 := ((tI5.fr f6 (by rintro (h | h); exact n10 h; exact n11 h) (by rintro (h | h); exact n12 h; exact n13 h)).fr f7 (Ne.symm n6) (Ne.symm n7)).fr f8d (Ne.symm n2) (Ne.symm n3)
    have tO8 := (t6.fr f7 (Ne.symm n8) (Ne.symm n9)).fr f8d (Ne.symm n4) (Ne.symm n5)
    rw [eu] at tI8 tO8
    have ff : Fr8 w1 w8 (fp A) := by
      have q1 : Fr8 w1 w5 (fp A) := ((x2.trans f3) _).trans f45 fun x _ hx => by
        rcases hx with hx | hx
        · exact .inr (.inr (.inl hx))
        · exact .inr (.inr (.inr (.inl hx)))
      have q2 : Fr8 w1 w6 (fp A) := q1.trans f6 fun x _ hx => by
        rcases hx with hx | hx
        · exact .inr (.inr (.inr (.inr (.inl hx))))
        · exact .inr (.inr (.inr (.inr (.inr hx))))
      exact (q2.trans f7 fun x _ hx => .inr (.inl hx)).trans f8d fun x _ hx => .inl hx
    have e : ((live 0 S).length : Int) - 1 = ((live 0 (S.set id.toNat none)).length : Int) := by omega
    rw [e] at hd8
    rw [hMi] at c4'
    rw [hMo] at c6'
    simp only [Option.isSome_some, if_true] at c4' c6'
    have db : DB w8 A most (S.set id.toNat none) (Gp.Bind.upd Mi (Bind.keyS b.i) none) (Gp.Bind.upd Mo (Bind.keyS b.o) none) :=
      ⟨hd8, row7.fr f8d (Ne.symm n1), by rw [List.length_set]; exact hl, hm, ⟨L4, tI8, by omega⟩, ⟨L6, tO8, by omega⟩, h.good.remove g1, h.ne⟩
    exact ⟨ff, _, _, db⟩

/-! ### All of them -/
def yD (L : List (Int × Bnd)) : List (DenR [.one (.int .i64), .agg [(.int .i64), (.int .i64), (.int .i64), (.int .i64), (.int .i64), (.int .i64), (.int .i64), .bool]]) :=
  L.map fun x => (x.1, (x.2.sw, x.2.pr, x.2.ad, x.2.po, x.2.opr, x.2.oad, x.2.opo, x.2.st, ()), ())

theorem live_append : ∀ (S T : Slots) (k : Nat), live k (S ++ T) = live k S ++ live (k + S.length) T
  | [], T, k => by simp [live]
  | none :: r, T, k => by rw [List.cons_append, live, live, live_append r T (k + 1)]; simp; congr 1; omega
  | some b :: r, T, k => by rw [List.cons_append, live, live, live_append r T (k + 1)]; simp; congr 1; omega

theorem live_at {S : Slots} {i : Nat} {b : Bnd} (h : S[i]? = some (some b)) : (live 0 S)[(live 0 (S.take i)).length]? = some ((i : Int), b) ∧ (live 0 (S.take (i + 1))).length = (live 0 (S.take i)).length + 1 := by
  have hlt := (List.getElem?_eq_some_iff.1 h).1
  have hS : S[i] = some b := by rw [List.getElem?_eq_getElem hlt] at h; simpa using h
  have e1 : S = S.take i ++ some b :: S.drop (i + 1) := by
    conv => lhs; rw [← List.take_append_drop i S, List.drop_eq_getElem_cons hlt, hS]
  have hl : (S.take i).length = i := by simp; omega
  constructor
  · conv => lhs; rw [e1]
    rw [live_append, List.getElem?_append_right (by simp [hl])]
    simp [live, hl]
  · rw [List.take_succ_eq_append_getElem hlt, hS, live_append]
    simp [live]

theorem live_skip {S : Slots} {i : Nat} (h : S[i]? = some none) : (live 0 (S.take (i + 1))).length = (live 0 (S.take i)).length := by
  have hlt := (List.getElem?_eq_some_iff.1 h).1
  have hS : S[i] = none := by rw [List.getElem?_eq_getElem hlt] at h; simpa using h
  rw [List.take_succ_eq_append_getElem hlt, hS, live_append]
  simp [live]

theorem all_iter (most : Nat) (S : Slots) (Mi Mo : ByteArray → Option Int) (A : Adr) (f0 : Nat) :
    IterFn Try.prog [.one (.int .i64), .agg [(.int .i64), (.int .i64), (.int .i64), (.int .i64), (.int .i64), (.int .i64), (.int .i64), .bool]] (Value.func (.func n_bind_DB_All_1) #[] #[(Value.pointer (some ⟨f0, 0, none⟩))])
      (fun W => Row W f0 [.pointer (some ⟨A.d, 0, none⟩)] ∧ DB W A most S Mi Mo) (yD (live 0 S)) := by
  refine ⟨by kernel_rfl, fun n Q D hC hQ hD hy w h0 => ?_⟩
  refine Calls.mono (ok_bind_DB_All_1 (a0 := .func (.yield n) #[] #[]) (f0 := ⟨f0, 0, none⟩) (K := fun w' => Q (yD (live 0 S)).length w' ∨ D w') ?_) (fun e w' h => h)
  unfold s_bind_DB_All_1
  obtain ⟨r0, h⟩ := hC _ _ h0
  have hl := h.len
  have hm := h.mx
  simp only [cond_false, Ld_eq, List.getElem?_cons_zero, LdV_some, dec_ptr, r0.cell]
  refine cm_bind_DB_ready (dready_ok h) ?_
  rintro _ w2 ⟨rfl, hw⟩
  subst hw
  simp only [Bool.not_true, cond_false, ex_some, List.getElem?_cons_zero, LdV_some, dec_slice, dec_ptr, AtIx_some, add_mk, Nat.zero_add, Nat.add_zero, r0.cell, h.hd.cell]
  have hyl : (yD (live 0 S)).length = (live 0 S).length := by simp [yD]
  rw [hyl]
  refine LoopP_inv (fun st W => ∃ i : Nat, i ≤ most ∧ st.1 = (i : Int) ∧ Q (live 0 (S.take i)).length W) (fun st _ => most - st.1.toNat) ⟨0, by omega, rfl, by simpa [live] using h0⟩ ?_
  rintro ⟨x, ⟨⟩⟩ W ⟨i, hi, rfl, hq⟩ next hnext
  obtain ⟨r0, h⟩ := hC _ _ hq
  by_cases hlt : i < most
  · have hlt' : ((i : Int) < (most : Int)) := by omega
    have hS : S[i]? = some S[i] := List.getElem?_eq_getElem (by omega)
    generalize S[i] = o at hS
    have c : ∀ j, j < 9 → _ := h.slot hS
    have c0 := c 0 (by omega)
    have c1 := c 1 (by omega)
    have c2 := c 2 (by omega)
    have c3 := c 3 (by omega)
    have c4 := c 4 (by omega)
    have c5 := c 5 (by omega)
    have c6 := c 6 (by omega)
    have c7 := c 7 (by omega)
    have c8 := c 8 (by omega)
    simp only [Nat.add_zero] at c0
    cases o with
    | none =>
      simp only [hlt', decide_true, cond_true, List.getElem?_cons_zero, List.getElem?_cons_succ, LdV_some, dec_int, dec_bool, Int.toNat_natCast, c0, c1, c2, c3, c4, c5, c6, c7, c8, slotV]
      refine ⟨by omega, by trivial, Al_f rfl rfl fun p w3 r3 e3 z3 f3 => ?_⟩
      simp only [cond_false, List.getElem?_cons_zero, List.getElem?_cons_succ, LdV_some, dec_int, dec_bool, add_mk, Nat.zero_add, Nat.add_zero, r3.cell]
      rw [wrap_i64 (by omega) (by omega)]
      refine hnext _ _ ⟨i + 1, by omega, by simp, ?_⟩ (by simp only; omega)
      rw [live_skip hS]
      exact hQ _ _ _ hq f3
    | some b =>
      simp only [hlt', decide_true, cond_true, List.getElem?_cons_zero, List.getElem?_cons_succ, LdV_some, dec_int, dec_bool, Int.toNat_natCast, c0, c1, c2, c3, c4, c5, c6, c7, c8, slotV]
      refine ⟨by omega, by trivial, Al_f rfl rfl fun p w3 r3 e3 z3 f3 => ?_⟩
      simp only [cond_true, List.getElem?_cons_zero, List.getElem?_cons_succ, LdV_some, dec_int, dec_bool, add_mk, Nat.zero_add, Nat.add_zero, r3.cell]
      obtain ⟨g1, g2⟩ := live_at hS
      refine callV_yield (hy (live 0 (S.take i)).length ((i : Int), (b.sw, b.pr, b.ad, b.po, b.opr, b.oad, b.opo, b.st, ()), ()) w3 _ ?_ (hQ _ _ _ hq f3) ?_ ?_)
      · simp only [yD, List.getElem?_map, g1, Option.map_some]
      · intro W' hq'
        refine ⟨true, rfl, ?_⟩
        simp only [Bool.not_true, cond_false]
        rw [wrap_i64 (by omega) (by omega)]
        exact hnext _ _ ⟨i + 1, by omega, by simp, by rw [g2]; exact hq'⟩ (by simp only; omega)
      · intro W' hd
        refine ⟨false, rfl, ?_⟩
        simp only [Bool.not_false, cond_true]
        exact .inr hd
  · have hlt' : ¬ ((i : Int) < (most : Int)) := by omega
    simp only [hlt', decide_false, cond_false]
    rw [List.take_of_length_le (by omega)] at hq
    exact .inl hq

theorem dnew_ok (n : Int) (w : World) : c_bind_New n w fun p e w' => Ext w w' ∧ ((¬ (0 ≤ n ∧ n ≤ 4096) ∧ p = none ∧ e = 1) ∨ (0 ≤ n ∧ n ≤ 4096 ∧ e = 0 ∧ ∃ A, p = some ⟨A.d, 0, none⟩ ∧ (∀ x, fp A x → w.heap.size ≤ x ∧ x < w'.heap.size) ∧ DB w' A n.toNat (List.replicate n.toNat none) (fun _ => none) (fun _ => none))) := by
  apply ok_bind_New
  unfold s_bind_New
  by_cases c1 : n < 0
  · simp only [c1, decide_true, cond_true]
    exact ⟨Ext.refl _, .inl ⟨by omega, by trivial, by trivial⟩⟩
  by_cases c2 : n > 4096
  · simp only [c1, c2, decide_true, decide_false, cond_true, cond_false]
    exact ⟨Ext.refl _, .inl ⟨by omega, by trivial, by trivial⟩⟩
  simp only [c1, c2, decide_false, cond_false]
  refine cm_hash_New (hnew_ok n w) ?_
  rintro p1 e1 w1 ⟨f1, (⟨_, _, rfl, ti, rfl, l1, t1⟩ | ⟨hbad, _, _⟩)⟩
  rotate_left
  · omega
  refine cm_hash_New (hnew_ok n w1) ?_
  rintro p2 e2 w2 ⟨f2, (⟨_, _, rfl, tu, rfl, l2, t2⟩ | ⟨hbad, _, _⟩)⟩
  rotate_left
  · omega
  simp only [show ((0 : Int) != 0) = false from rfl, cond_false]
  refine MkSl_row (by omega) (by omega) (by omega) (by omega) fun sl w3 r3 e3 z3 f3 => ?_
  refine Al_e fun d w4 r4 e4 z4 f4 => ?_
  obtain ⟨m, rfl⟩ : ∃ m : Nat, n = (m : Int) := ⟨n.toNat, by omega⟩
  simp only [Int.toNat_natCast] at r3 r4 ⊢
  have f1 : Ext w w1 := f1
  have f2 : Ext w1 w2 := f2
  have f3 : Ext w2 w3 := f3
  have x4 : Ext w w4 := (f1.trans f2).trans (f3.trans f4)
  have i1 := t1.ht.hd.lt
  have i2 := t2.ht.hd.lt
  have s1 := f1.size
  have s2 := f2.size
  have live_rep : ∀ (k j : Nat), live j (List.replicate k none) = [] := by
    intro k
    induction k with
    | zero => intro j; rfl
    | succ k ih => intro j; rw [List.replicate_succ, live]; exact ih _
  have rep : ∀ k, repCells [Value.int .i64 0, Value.int .i64 0, Value.int .i64 0, Value.int .i64 0, Value.int .i64 0, Value.int .i64 0, Value.int .i64 0, Value.bool false, Value.bool false] k = (List.replicate k (none : Option Bnd)).flatMap slotV := by
    intro k
    induction k with
    | zero => rfl
    | succ k ih => rw [repCells, ih, List.replicate_succ, List.flatMap_cons]; rfl
  refine ⟨x4, .inr ⟨by omega, by omega, by trivial, ⟨d, sl, ti, ti, tu, tu⟩, rfl, ?_, ?_⟩⟩
  · intro x hx
    rcases hx with hx | hx | hx | hx | hx | hx <;> simp only at hx <;> omega
  · refine ⟨?_, ?_, by simp, by omega, ⟨[], ?_, ?_⟩, ⟨[], ?_, ?_⟩, ⟨fun k v => ?_, fun k v => ?_, fun j b hb => ?_⟩, ?_⟩
    · rw [live_rep]; exact r4
    · rw [← rep]; exact r3.ext f4
    · exact t1.frn (f2.trans (f3.trans f4))
    · rw [live_rep]; rfl
    · exact t2.frn (f3.trans f4)
    · rw [live_rep]; rfl
    · constructor
      · intro h; cases h
      · rintro ⟨j, b, hj, _⟩
        rw [List.getElem?_replicate] at hj
        split at hj <;> simp at hj
    · constructor
      · intro h; cases h
      · rintro ⟨j, b, hj, _⟩
        rw [List.getElem?_replicate] at hj
        split at hj <;> simp at hj
    · rw [List.getElem?_replicate] at hb
      split at hb <;> simp at hb
    · refine ⟨?_, ?_, ?_, ?_, ?_, ?_, ?_, ?_, ?_, ?_, ?_, ?_, ?_⟩ <;> simp only <;> omega
end
end Go.Proofs
