import Derived.Test.YtgnlnicmgnkliaaSes4
/- The laws SessionNobody and SessionOnce. -/
namespace Go.Proofs
open Gp Gp.Hash
open Gp.Ses (Ses Slots live GoodS freeN getS ids)
open Gp.Bind (In64)
set_option maxRecDepth 100000

def wakeB : Ses := ⟨3, 0, 0, 1, 2⟩

theorem ses_ok {b : Ses} (h1 : In64 b.bd) (h2 : In64 b.ra) (h3 : In64 b.rp) : b.ok := by
  intro n hn
  simp only [Ses.k, List.mem_cons, List.not_mem_nil, or_false] at hn
  rcases hn with rfl | rfl | rfl <;> assumption

theorem awake24_ok (w : World) : c_law24_awake w fun r w' => r = true ∧ Ext w w' := by
  apply ok_law24_awake
  unfold s_law24_awake
  refine cm_session_New (tnew_ok 2 w) ?_
  rintro p e w1 ⟨f1, (⟨hbad, _, _⟩ | ⟨_, _, rfl, A, rfl, hfp, h⟩)⟩
  · omega
  simp only [Option.isNone_some, show ((0 : Int) != 0) = false from rfl, cond_false]
  have ok : wakeB.ok := ses_ok (by constructor <;> simp [wakeB]) (by constructor <;> simp [wakeB]) (by constructor <;> simp [wakeB])
  refine cm_session_Table_Add (tadd_ok h wakeB ok) ?_
  have ha : addS (List.replicate (Int.toNat 2) none) (fun _ => none) wakeB = (0, 0) := rfl
  rw [ha]
  rintro n e w3 ⟨he, f3, A', S', M', h3, hd, hfp3, hS⟩
  simp only [Prod.mk.injEq] at he
  obtain ⟨rfl, rfl⟩ := he
  have hS : S' = [some wakeB, none] := hS
  subst hS
  have hM := (h3.good.k (Bind.keyS wakeB.k) 0).2 ⟨0, wakeB, rfl, rfl, rfl⟩
  rw [← hd]
  refine cm_session_Table_Find (tfind_ok h3 3 1 2 ok) ?_
  rintro n4 t4 w4 ⟨ht4, hn4, f4⟩
  rw [show ([3, 1, 2] : List Int) = wakeB.k from rfl, hM] at ht4 hn4
  have ht4 : t4 = true := ht4
  have hn4 : n4 = 0 := hn4
  subst ht4 hn4
  simp only [show ((0 : Int) == 0) = true from rfl, cond_true]
  refine cm_session_Table_Set (tset_ok (h3.ext f4) 0 4 5) ?_
  rintro r5 w5 ⟨hr5, f5, S5, h5, hS5⟩
  have hr5 : r5 = true := hr5
  subst hr5
  have hS5 : S5 = [some { wakeB with st := 4, un := 5 }, none] := hS5
  subst hS5
  simp only [cond_true]
  refine cm_session_Table_Len (tlen_ok h5) ?_
  rintro n6 w6 ⟨rfl, hw⟩
  subst hw
  have x4 : Ext w w4 := (f1.new f3 fun y hy hx => by have := hfp y hx; omega).trans f4
  refine ⟨rfl, x4.new f5 fun y hy hx => ?_⟩
  have s1 := f1.size
  rcases hfp3 y hx with h7 | h7
  · have := hfp y h7; omega
  · omega

/-! ### Nobody's -/
def DeadP (w : World) (p : Option Addr) : Prop := p = none ∨ ∃ z, p = some ⟨z, 0, none⟩ ∧ w.cell? ⟨z, 1, none⟩ = some (.pointer none)

theorem DeadP.ext {w w' : World} {p : Option Addr} (h : DeadP w p) (hf : Ext w w') : DeadP w' p := by
  rcases h with h | ⟨z, h1, h2⟩
  · exact .inl h
  · exact .inr ⟨z, h1, cell_ext h2 hf⟩

theorem ready_dead {w : World} {p : Option Addr} (h : DeadP w p) : c_session_Table_ready p w fun r w' => r = false ∧ w' = w := by
  apply ok_session_Table_ready
  unfold s_session_Table_ready
  rcases h with rfl | ⟨z, rfl, h2⟩
  · simp only [Option.isNone_none, Bool.not_true, cond_false]
    exact ⟨by trivial, by trivial⟩
  · simp only [Option.isNone_some, Option.isNone_none, cond_true, ex_some, Ld_eq, LdV_some, dec_ptr, add_mk, Nat.zero_add, h2, Bool.not_false, Bool.not_true]
    exact ⟨by trivial, by trivial⟩

theorem add_dead {w : World} {p : Option Addr} (h : DeadP w p) (a b c d e : Int) : c_session_Table_Add p a b c d e w fun n e w' => e = 2 ∧ Ext w w' := by
  apply ok_session_Table_Add
  unfold s_session_Table_Add
  refine Al_e fun q w1 r1 _ _ f1 => ?_
  refine cm_session_Table_ready (ready_dead (h.ext f1)) ?_
  rintro _ w2 ⟨rfl, hw⟩
  subst hw
  simp only [Bool.not_false, cond_true]
  exact ⟨by trivial, f1⟩

theorem has_dead {w : World} {p : Option Addr} (h : DeadP w p) (id : Int) : c_session_Table_has p id w fun r w' => r = false ∧ w' = w := by
  apply ok_session_Table_has
  unfold s_session_Table_has
  refine cm_session_Table_ready (ready_dead h) ?_
  rintro _ w2 ⟨rfl, hw⟩
  subst hw
  simp only [cond_false]
  exact ⟨by trivial, by trivial⟩

theorem get_dead {w : World} {p : Option Addr} (h : DeadP w p) (id : Int) : c_session_Table_Get p id w fun _ _ _ _ _ r w' => r = false ∧ Ext w w' := by
  apply ok_session_Table_Get
  unfold s_session_Table_Get
  refine Al_e fun q w1 r1 e1 _ f1 => ?_
  refine cm_session_Table_has (has_dead (h.ext f1) id) ?_
  rintro _ w2 ⟨rfl, hw⟩
  subst hw
  simp only [Bool.not_false, cond_true]
  refine StN_full r1 rfl rfl fun w3 r3 f3 _ => ?_
  simp only [Ld_eq, List.getElem?_cons_zero, List.getElem?_cons_succ, LdV_some, dec_int, add_mk, Nat.zero_add, Nat.add_zero, r3.cell]
  exact ⟨by trivial, f1.new (f3 (· = q) rfl) fun y hy e => by omega⟩

theorem find_dead {w : World} {p : Option Addr} (h : DeadP w p) (a b c : Int) : c_session_Table_Find p a b c w fun _ t w' => t = false ∧ Ext w w' := by
  apply ok_session_Table_Find
  unfold s_session_Table_Find
  refine Al_e fun q w1 r1 e1 _ f1 => ?_
  refine cm_session_Table_ready (ready_dead (h.ext f1)) ?_
  rintro _ w2 ⟨rfl, hw⟩
  subst hw
  simp only [Bool.not_false, cond_true]
  exact ⟨by trivial, f1⟩

theorem set_dead {w : World} {p : Option Addr} (h : DeadP w p) (id st un : Int) : c_session_Table_Set p id st un w fun r w' => r = false ∧ w' = w := by
  apply ok_session_Table_Set
  unfold s_session_Table_Set
  refine cm_session_Table_has (has_dead h id) ?_
  rintro _ w2 ⟨rfl, hw⟩
  subst hw
  simp only [Bool.not_false, cond_true]
  exact ⟨by trivial, by trivial⟩

theorem remove_dead {w : World} {p : Option Addr} (h : DeadP w p) (id : Int) : c_session_Table_Remove p id w fun r w' => r = false ∧ Ext w w' := by
  apply ok_session_Table_Remove
  unfold s_session_Table_Remove
  refine ⟨rfl, Al_e fun q w1 r1 e1 _ f1 => ?_⟩
  simp only [Ld_eq, List.getElem?_cons_zero, LdV_some, dec_int, r1.cell]
  refine cm_session_Table_has (has_dead (h.ext f1) id) ?_
  rintro _ w2 ⟨rfl, hw⟩
  subst hw
  simp only [Bool.not_false, cond_true]
  exact ⟨by trivial, f1⟩

theorem len_dead {w : World} {p : Option Addr} (h : DeadP w p) : c_session_Table_Len p w fun n w' => n = 0 ∧ w' = w := by
  apply ok_session_Table_Len
  unfold s_session_Table_Len
  refine cm_session_Table_ready (ready_dead h) ?_
  rintro _ w2 ⟨rfl, hw⟩
  subst hw
  simp only [Bool.not_false, cond_true]
  exact ⟨by trivial, by trivial⟩

theorem of_dead (f0 f1 : Nat) :
    IterFn Try.prog yK (Value.func (.func 62) #[] #[(Value.pointer (some ⟨f0, 0, none⟩)), (Value.pointer (some ⟨f1, 0, none⟩))])
      (fun W => Row W f0 [.pointer none]) [] := by
  refine ⟨by kernel_rfl, fun n Q D hC hQ hD hy w h0 => ?_⟩
  refine Calls.mono (ok_session_Table_Of_1 (a0 := .func (.yield n) #[] #[]) (f0 := ⟨f0, 0, none⟩) (f1 := ⟨f1, 0, none⟩) (K := fun w' => Q 0 w' ∨ D w') ?_) (fun e w' h => h)
  unfold s_session_Table_Of_1
  have r0 := hC _ _ h0
  simp only [Ld_eq, List.getElem?_cons_zero, LdV_some, dec_ptr, r0.cell]
  refine cm_session_Table_ready (ready_dead (.inl rfl)) ?_
  rintro _ w2 ⟨rfl, hw⟩
  subst hw
  simp only [Bool.not_false, cond_true]
  exact .inl h0

theorem snobody_ok (w : World) (a b c d e id : Int) : c_law24_SessionNobody a b c d e id w fun r w' => r = true ∧ Ext w w' := by
  apply ok_law24_SessionNobody
  unfold s_law24_SessionNobody
  refine Al_e fun p w1 r1 e1 z1 f1 => Al_e fun q w2 r2 e2 z2 f2 => ?_
  have r1 := r1.ext f2
  refine cm_law24_awake (awake24_ok _) ?_
  rintro _ w3 ⟨rfl, f3⟩
  simp only [Bool.not_true, cond_false]
  refine Al_e fun z w4 r4 e4 z4 f4 => ?_
  have y4 := f3.trans f4
  have x4 := (f1.trans f2).trans y4
  have r1 := r1.ext y4
  have hn : ∀ W, DeadP W none := fun W => .inl rfl
  have hz : DeadP w4 (some ⟨z, 0, none⟩) := .inr ⟨z, rfl, by rw [r4.cell]; rfl⟩
  simp only [Ld_eq, List.getElem?_cons_zero, List.getElem?_cons_succ, LdV_some, dec_int, add_mk, Nat.zero_add, Nat.add_zero, r1.cell]
  refine cm_session_Table_Add (add_dead (hn _) _ _ _ _ _) ?_
  rintro n5 _ w5 ⟨rfl, f5⟩
  simp only [List.getElem?_cons_zero, List.getElem?_cons_succ, LdV_some, dec_int, (r1.ext f5).cell]
  refine cm_session_Table_Add (add_dead (hz.ext f5) _ _ _ _ _) ?_
  rintro n6 _ w6 ⟨rfl, f6⟩
  refine cm_session_Table_Get (get_dead (hn _) id) ?_
  rintro g1 g2 g3 g4 g5 _ w7 ⟨rfl, f7⟩
  refine Al_f rfl rfl fun y w8 r8 e8 z8 f8 => ?_
  have y8 := (f5.trans f6).trans (f7.trans f8)
  simp only [List.getElem?_cons_zero, List.getElem?_cons_succ, LdV_some, dec_int, (r1.ext y8).cell]
  refine cm_session_Table_Find (find_dead (hz.ext y8) _ _ _) ?_
  rintro n9 _ w9 ⟨rfl, f9⟩
  simp only [List.getElem?_cons_zero, LdV_some, dec_int, (r1.ext (y8.trans f9)).cell]
  apply ok_session_Table_Of
  unfold s_session_Table_Of
  refine ⟨rfl, Al_e fun fc w10 r10 e10 z10 f10 => ⟨rfl, Al_e fun fd w11 r11 e11 z11 f11 => ?_⟩⟩
  have r10 := r10.ext f11
  have y11 := y8.trans (f9.trans (f10.trans f11))
  have x11 := x4.trans y11
  have hq := r2.ext (y4.trans y11)
  have hql := r2.lt
  have z411 := (y4.trans y11).size
  refine rng_iter (of_dead fc fd) (fun _ W => Ext w11 W ∧ w11.heap.size + 2 ≤ W.heap.size) (fun _ _ => False) (by simp) ?_ ?_ ?_ (by intro e W W' h; exact h.elim) (by intro e W h; exact h.elim) ?_ ?_ (by intro W h; exact h.elim) (by intro id W h; exact h.elim)
  · intro w12 f12 z12
    exact ⟨f12, by have : lAt none w11 = w11.heap.size + 1 := rfl; omega⟩
  · exact fun i W h => r10.ext h.1
  · rintro i W W' ⟨h1, h2⟩ hf
    have : lAt none w11 = w11.heap.size + 1 := rfl
    exact ⟨h1.new hf fun y hy e => by omega, by have := hf.size; omega⟩
  · intro i x W Kb hx
    simp at hx
  · rintro W ⟨hx, hs⟩ hm
    have hmk := hm rfl
    have hzW : DeadP W (some ⟨z, 0, none⟩) := (hz.ext y11).ext hx
    simp only [show ((2 : Int) == 2) = true from rfl, Bool.not_false, cond_true]
    refine cm_session_Table_Set (set_dead (hn _) id 1 2) ?_
    rintro _ w12 ⟨rfl, hw⟩
    subst hw
    simp only [Bool.not_false, cond_true]
    refine cm_session_Table_Remove (remove_dead (hn _) id) ?_
    rintro _ w13 ⟨rfl, f13⟩
    simp only [Bool.not_false, cond_true]
    refine cm_session_Table_Remove (remove_dead (hzW.ext f13) id) ?_
    rintro _ w14 ⟨rfl, f14⟩
    simp only [Bool.not_false, cond_true]
    refine cm_session_Table_Len (len_dead (hn _)) ?_
    rintro _ w15 ⟨rfl, hw⟩
    subst hw
    simp only [show ((0 : Int) == 0) = true from rfl, cond_true]
    refine cm_law24_awake (awake24_ok _) ?_
    rintro _ w16 ⟨rfl, f16⟩
    have f16 := (f13.trans f14).trans f16
    refine St_row ((hq.ext hx).ext f16) rfl (by simp) fun w17 r17 f17 z17 => ?_
    simp only [List.set_cons_zero] at r17
    have f17q := f17 (· = q) rfl
    have s16 := f16.size
    refine ⟨?_, ?_⟩
    · rw [f17q.same _ (by omega) (by omega), (f16 fun _ => False).same _ (by omega) (by simp)]; exact hmk
    · have pf := Fr8.putDef w17 w11.heap.size (.deferred none)
      simp only [List.getElem?_cons_zero, LdV_some, dec_bool, (r17.fr pf (by omega)).cell]
      exact ⟨by trivial, (((x11.trans hx).trans f16).new f17q fun y hy e => by omega).new pf fun y hy e => by omega⟩

/-! ### Once -/
/-- What comes in as calls. -/
def doCell (op id : Int) (b : Ses) : List Value := [.int .i64 op, .int .i64 id, .int .i64 b.bd, .int .i64 b.st, .int .i64 b.un, .int .i64 b.ra, .int .i64 b.rp]

def DoIn (w : World) (s : SliceV) : Prop := s.len ≤ 2 ^ 63 - 1 ∧ ∀ k, k < s.len → ∃ (op id : Int) (b : Ses) (a : Addr), b.ok ∧ s.a = some a ∧ ∀ j v, (doCell op id b)[j]? = some v → w.cell? (a.add (k * 7 + j)) = some v

theorem DoIn.ext {w w' : World} {s : SliceV} (h : DoIn w s) (hf : Ext w w') : DoIn w' s :=
  ⟨h.1, fun k hk => by obtain ⟨op, id, b, a, h1, h2, h3⟩ := h.2 k hk; exact ⟨op, id, b, a, h1, h2, fun j v hj => cell_ext (h3 j v hj) hf⟩⟩

theorem busy_ext {W W' : World} {l : Nat} (h : Ext W W') (hl : l < W.heap.size) : Ext (busyW W l) (busyW W' l) := by
  intro S
  have hs := h.size
  refine ⟨by simpa [busyW] using hs, fun b hb _ => ?_, (h S).io⟩
  have hb : b < W.heap.size := by simpa [busyW] using hb
  have e := (h fun _ => False).same b hb (by simp)
  simp only [busyW, Array.getElem?_modify, e]

theorem yS_get (L : List (Int × Ses)) (i : Nat) : (yS L)[i]? = (L[i]?).map fun x => (x.1, (x.2.bd, x.2.st, x.2.un, x.2.ra, x.2.rp, ()), ()) := by simp [yS]

theorem once24_ok {w : World} {s : SliceV} (hs : DoIn w s) : c_law24_SessionOnce s w fun r w' => r = true ∧ Ext w w' := by
  apply ok_law24_SessionOnce
  unfold s_law24_SessionOnce
  have hsl := hs.1
  refine Al_e fun pa w1 r1 e1 z1 f1 => ?_
  refine cm_law24_awake (awake24_ok w1) ?_
  rintro _ w2 ⟨rfl, f2⟩
  simp -zeta only [Bool.not_true, cond_false]
  refine cm_session_New (tnew_ok 50 w2) ?_
  rintro p e w3 ⟨f3, (⟨hbad, _, _⟩ | ⟨_, _, rfl, A, rfl, hfp, hd⟩)⟩
  · omega
  refine Al_e fun pb w4 r4 e4 z4 f4 => ?_
  refine St_row r4 rfl (by simp) fun w5 r5 f5 z5 => ?_
  simp only [List.set_cons_zero] at r5
  have f5b := f5 (· = pb) rfl
  have s1 := f1.size
  have s2 := f2.size
  have s3 := f3.size
  have s4 := f4.size
  have x5 : Ext w w5 := (((f1.trans f2).trans f3).trans f4).new f5b fun y hy e => by omega
  have ra5 := (((r1.ext f2).ext f3).ext f4).fr f5b (by omega)
  have hlt3 : ∀ y, fp A y → y < w3.heap.size := fun y hy => hd.lt hy
  have hd5 := (hd.ext f4).fr f5b fun y hy e => by have := hlt3 y hy; omega
  intro J14
  simp -zeta only [Option.isNone_some, cond_false, Ld_eq, List.getElem?_cons_zero, LdV_some, dec_ptr, r5.cell, show ((0 : Int) != 0) = false from rfl]
  show J14 false
  simp -zeta only [J14, cond_false]
  intro J18
  have h18 : ∀ W A S M, Ext w W → Row W pa [.bool false] → Row W pb [.pointer (some ⟨A.d, 0, none⟩)] → TA W A 50 S M → (∀ y, fp A y → w.heap.size ≤ y ∧ y ≠ pa ∧ y ≠ pb) → J18 W := by
    intro W A S M hx ra rb hd hf
    simp only [J18]
    refine Al_e fun pc w8 r8 e8 z8 f8 => ?_
    refine St_row r8 rfl (by simp) fun w10 r10 f10 z10 => ?_
    have f10c := f10 (· = pc) rfl
    simp only [List.set_cons_zero] at r10
    have y10 : Ext W w10 := f8.new f10c fun y hy e => by omega
    simp only [cond_true, Ld_eq, List.getElem?_cons_zero, LdV_some, dec_ptr, (rb.ext y10).cell]
    apply ok_session_Table_All
    unfold s_session_Table_All
    refine ⟨rfl, Al_e fun fc w12 r12 e12 z12 f12 => ?_⟩
    have y12 := y10.trans f12
    have hd12 := hd.ext y12
    have rc12 := r10.ext f12
    have ra12 := ra.ext y12
    have rb12 := rb.ext y12
    have hla : lAt none w12 = w12.heap.size + 1 := rfl
    have s12 := f12.size
    have hal := ra.lt
    have hbl := rb.lt
    have hyl : (yS (live 0 S)).length = (live 0 S).length := by simp [yS]
    have hll := Gp.Ses.live_len_le S 0
    have hl50 := hd.len
    have hW : ∀ y, fp A y → y < W.heap.size := fun y hy => hd.lt hy
    refine rng_iter (all_iter 50 S M A fc) (fun i V => Row V pc [.int .i64 (i : Int)] ∧ Fr8 w12 V (· = pc) ∧ w12.heap.size + 2 ≤ V.heap.size)
      (fun _ _ => False) (by simp) ?_ ?_ ?_ (by intro e W W' h; exact h.elim) (by intro e W h; exact h.elim) ?_ ?_ (by intro W h; exact h.elim) (by intro id W h; exact h.elim)
    · intro w13 f13 z13
      exact ⟨rc12.ext f13, f13 _, by omega⟩
    · rintro i V ⟨_, g3, _⟩
      exact ⟨r12.fr g3 (by omega), hd12.fr g3 fun y hy h => by have := hW y hy; omega⟩
    · rintro i V V' ⟨g1, g3, g4⟩ hfr
      exact ⟨g1.fr hfr (by omega), g3.trans hfr fun y hy e => by omega, by have := hfr.size; omega⟩
    · intro i v V Kb hv ⟨g1, g3, g4⟩ hlt hnorm _
      rw [yS_get] at hv
      cases hL : (live 0 S)[i]? with
      | none => rw [hL] at hv; simp at hv
      | some y =>
      obtain ⟨n, b⟩ := y
      rw [hL] at hv
      simp only [Option.map_some, Option.some.injEq] at hv
      subst hv
      have hil : i < (live 0 S).length := (List.getElem?_eq_some_iff.1 hL).1
      obtain ⟨k, hk, hkn⟩ := Gp.Ses.mem_live.1 (List.mem_of_getElem? hL)
      have hbk := hd.good.ok k b hk
      have hM : M (Bind.keyS b.k) = some n := (hd.good.k _ _).2 ⟨k, b, hk, rfl, by omega⟩
      refine Al_f rfl rfl fun q w13 r13 e13 z13 f13 => ?_
      refine ⟨by rw [(f13 fun _ => False).same _ hlt (by simp)], ?_⟩
      have fb := busy_ext f13 hlt
      have fV : Fr8 w12 (busyW V (lAt none w12)) (· = pc) := g3.trans (Fr8.busyW V _) fun y hy e => by omega
      have fV' := fV.ext fb
      have qa : Row (busyW w13 (lAt none w12)) pb _ := rb12.fr fV' (by omega)
      have qc : Row (busyW w13 (lAt none w12)) pc _ := (g1.fr (Fr8.busyW V _) (by omega)).ext fb
      have q13 : Row (busyW w13 (lAt none w12)) q _ := r13.fr (Fr8.busyW w13 _) (by omega)
      have hdV : TA (busyW w13 (lAt none w12)) A 50 S M := hd12.fr fV' fun y hy h => by have := hW y hy; omega
      simp only [List.getElem?_cons_zero, List.getElem?_cons_succ, LdV_some, dec_int, dec_ptr, add_mk, Nat.zero_add, Nat.add_zero, qa.cell, q13.cell]
      refine cm_session_Table_Find (tfind_ok hdV _ _ _ hbk) ?_
      rintro n14 t14 w14 ⟨ht14, hn14, f14⟩
      have ht14 : t14 = (M (Bind.keyS b.k)).isSome := ht14
      have hn14 : n14 = (M (Bind.keyS b.k)).getD 0 := hn14
      rw [hM] at ht14 hn14
      have ht14 : t14 = true := ht14
      have hn14 : n14 = n := hn14
      subst ht14 hn14
      have qc14 := qc.ext f14
      simp only [Bool.not_true, bne_self_eq_false, cond_false, List.getElem?_cons_zero, LdV_some, dec_int, qc14.cell]
      rw [wrap_i64 (by omega) (by omega)]
      refine St_row qc14 rfl (by simp) fun w15 r15 f15 z15 => ?_
      simp only [List.set_cons_zero] at r15
      have ftot : Fr8 (busyW V (lAt none w12)) w15 (· = pc) := ((fb.trans f14) _).trans (f15 (· = pc) rfl) fun _ _ h => h
      refine hnorm w15 _ ftot (by rintro y h1 h2; omega) ⟨by simpa using r15, fV.trans ftot fun _ _ h => h, ?_⟩
      have := ftot.size
      simp [busyW] at this
      omega
    · rintro V ⟨g1, g3, g4⟩ hm
      have hmk := hm rfl
      rw [hyl] at g1
      have g1 := g1.drew
      have g3 := g3.ext (Ext.drew V)
      have qb : Row V.drew pb _ := rb12.fr g3 (by omega)
      have qa : Row V.drew pa _ := ra12.fr g3 (by omega)
      have hdV := hd12.fr g3 fun y hy h => by have := hW y hy; omega
      simp only [List.getElem?_cons_zero, LdV_some, dec_int, dec_ptr, g1.cell, qb.cell]
      refine cm_session_Table_Len (tlen_ok hdV) ?_
      rintro _ w14 ⟨rfl, hw⟩
      subst hw
      simp only [true_and, cond_true, List.getElem?_cons_zero, g1.cell, beq_self_eq_true]
      refine cm_law24_awake (awake24_ok _) ?_
      rintro _ w15 ⟨rfl, f15⟩
      refine St_row (qa.ext f15) rfl (by simp) fun w16 r16 f16 z16 => ?_
      simp only [List.set_cons_zero] at r16
      have f16a := f16 (· = pa) rfl
      have s15 := f15.size
      have dz : V.drew.heap.size = V.heap.size := rfl
      refine ⟨?_, ?_⟩
      · rw [f16a.same _ (by omega) (by omega), (f15 fun _ => False).same _ (by omega) (by simp)]; exact hmk
      · have pf := Fr8.putDef w16 w12.heap.size (.deferred none)
        simp only [List.getElem?_cons_zero, LdV_some, dec_bool, (r16.fr pf (by omega)).cell]
        refine ⟨by trivial, ?_⟩
        have hxs := hx.size
        exact ((((hx.trans y12).new g3 fun y hy h => by omega).trans f15).new f16a fun y hy e => by omega).new pf fun y hy e => by omega
  -- the calls
  refine LoopP_inv (fun st W => ∃ i : Nat, i ≤ s.len ∧ st.1 = (i : Int) ∧ Ext w W ∧ Row W pa [.bool false] ∧ ∃ A S M, Row W pb [.pointer (some ⟨A.d, 0, none⟩)] ∧ TA W A 50 S M ∧ ∀ y, fp A y → w.heap.size ≤ y ∧ y ≠ pa ∧ y ≠ pb) (fun st _ => s.len - st.1.toNat)
    ⟨0, by omega, rfl, x5, ra5, A, _, _, r5, hd5, fun y hy => by have := hfp y hy; have := hlt3 y hy; refine ⟨?_, ?_, ?_⟩ <;> omega⟩ ?_
  rintro ⟨k, ⟨⟩⟩ W ⟨i, hi, rfl, hx, ra, A', S, M, rb, hd', hf⟩ next hnext
  by_cases hlt : i < s.len
  · have hlt' : ((i : Int) < (s.len : Int)) := by omega
    obtain ⟨op, id, b, a, hb, ha, hc⟩ := (hs.ext hx).2 i hlt
    have k0 := hc 0 _ rfl
    have k1 := hc 1 _ rfl
    have k2 := hc 2 _ rfl
    have k3 := hc 3 _ rfl
    have k4 := hc 4 _ rfl
    have k5 := hc 5 _ rfl
    have k6 := hc 6 _ rfl
    simp only [Nat.add_zero] at k0
    simp -zeta only [hlt', decide_true, cond_true, ex_some, Ld_eq, LdV_some, dec_int, Nat.add_zero, AtIx, ha, Int.toNat_natCast, addr_add2, k0, k1, k2, k3, k4, k5, k6]
    intro J98
    refine ⟨by first | trivial | omega, by first | trivial | omega, Al_f rfl rfl fun z w6 r6 e6 z6 f6 => ?_⟩
    have x6 := hx.trans f6
    have hd6 := hd'.ext f6
    have ra6 := ra.ext f6
    have rb6 := rb.ext f6
    have hal := ra.lt
    have hbl := rb.lt
    by_cases h60 : (i : Int) ≥ 60
    · simp only [h60, decide_true, cond_true]
      exact h18 w6 A' S M x6 ra6 rb6 hd6 hf
    simp -zeta only [h60, decide_false, cond_false, cond_false, List.getElem?_cons_zero, List.getElem?_cons_succ, LdV_some, dec_int, add_mk, Nat.zero_add, r6.cell]
    have hi60 : IntKind.i64.wrap ((i : Int) + 1) = ((i + 1 : Nat) : Int) := by rw [wrap_i64 (by omega) (by omega)]; omega
    by_cases hop : op < 3
    · simp only [hop, decide_true, cond_true, cond_true, List.getElem?_cons_zero, LdV_some, dec_ptr, rb6.cell, J98]
      refine cm_session_Table_Add (tadd_ok hd6 b hb) ?_
      rintro n e w7 ⟨_, f7, A2, S2, M2, hd7, hA, hfp7, _⟩
      rw [hi60]
      refine hnext _ _ ⟨i + 1, by omega, rfl, x6.new f7 fun y hy h => by have := (hf y h).1; omega, ra6.fr f7 fun h => (hf pa h).2.1 rfl, A2, S2, M2, by rw [hA]; exact rb6.fr f7 fun h => (hf pb h).2.2 rfl, hd7, fun y hy => ?_⟩ (by simp only; omega)
      rcases hfp7 y hy with h8 | h8
      · exact hf y h8
      · have := x6.size
        refine ⟨?_, ?_, ?_⟩ <;> omega
    · simp only [hop, decide_false, cond_false, cond_false, List.getElem?_cons_zero, LdV_some, dec_ptr, rb6.cell, J98]
      refine cm_session_Table_Remove (tremove_ok hd6 id) ?_
      rintro r w7 ⟨_, f7, A2, S2, M2, hd7, hA, hfp7, _⟩
      rw [hi60]
      exact hnext _ _ ⟨i + 1, by omega, rfl, x6.new f7 fun y hy h => by have := (hf y h).1; omega, ra6.fr f7 fun h => (hf pa h).2.1 rfl, A2, _, M2, by rw [hA]; exact rb6.fr f7 fun h => (hf pb h).2.2 rfl, hd7, fun y hy => hf y (hfp7 y hy)⟩ (by simp only; omega)
  · have hlt' : ¬ ((i : Int) < (s.len : Int)) := by omega
    simp only [hlt', decide_false, cond_false]
    exact h18 W A' S M hx ra rb hd' hf
end Go.Proofs
