import Derived.Test.YtgnlnicmgnkliaaSes6
/- The law SessionLives. -/
namespace Go.Proofs
open Gp Gp.Hash
open Gp.Ses (Ses Slots live GoodS freeN getS ids)
open Gp.Bind (In64)
set_option maxRecDepth 100000

theorem RF.lt {w : World} {x : Nat} {s : SliceV} {most : Int} {L : List (Int × Ses)} (h : RF w x s most L) {y : Nat} (hy : fpR x s y) : y < w.heap.size := by
  rcases hy with hy | hy
  · rw [hy]; exact h.hd.lt
  · exact h.buf.lt hy

theorem same24_ok {w : World} {A : Adr} {most x : Nat} {S : Slots} {M : ByteArray → Option Int} {s : SliceV} {m : Int} (h : TA w A most S M) (hr : RF w x s m (live 0 S)) (k : Int) :
    c_law24_same (some ⟨A.d, 0, none⟩) (some ⟨x, 0, none⟩) k w fun r w' => r = true ∧ Ext w w' := by
  apply ok_law24_same
  unfold s_law24_same
  refine ⟨rfl, Al_e fun pa w1 r1 e1 z1 f1 => Al_e fun pb w2 r2 e2 z2 f2 => Al_e fun pc w3 r3 e3 z3 f3 => ?_⟩
  refine St_row r3 rfl (by simp) fun w4 r4 f4 z4 => ?_
  simp only [List.set_cons_zero] at r4
  have f4c := f4 (· = pc) rfl
  have ra4 := ((r1.ext f2).ext f3).fr f4c (by omega)
  have rb4 := (r2.ext f3).fr f4c (by omega)
  have x4 : Ext w w4 := ((f1.trans f2).trans f3).new f4c fun y hy e => by omega
  apply ok_session_Table_All
  unfold s_session_Table_All
  refine ⟨rfl, Al_e fun fc w5 r5 e5 z5 f5 => ?_⟩
  have x5 := x4.trans f5
  have ra5 := ra4.ext f5
  have rb5 := rb4.ext f5
  have rc5 := r4.ext f5
  have h5 := h.ext x5
  have hr5 := hr.ext x5
  have s4 := x4.size
  have s1 := f1.size
  have s2 := f2.size
  have s3 := f3.size
  have s5 := f5.size
  have hla : lAt none w5 = w5.heap.size + 1 := rfl
  have hll := hr.len
  have hlen := hr.buf.len
  have hyl : (yS (live 0 S)).length = (live 0 S).length := by simp [yS]
  have hnew : ∀ y, fp A y → y < w.heap.size := fun y hy => h.lt hy
  have hnewR : ∀ y, fpR x s y → y < w.heap.size := fun y hy => hr.lt hy
  refine rng_iter (all_iter most S M A fc) (fun i W => Row W pc [.int .i64 (i : Int)] ∧ Fr8 w5 W (· = pc) ∧ w5.heap.size + 2 ≤ W.heap.size) (fun _ _ => False) (by simp) ?_ ?_ ?_ (by intro e W W' h; exact h.elim) (by intro e W h; exact h.elim) ?_ ?_ (by intro W h; exact h.elim) (by intro id W h; exact h.elim)
  · intro w6 f6 z6
    exact ⟨rc5.ext f6, f6 _, by omega⟩
  · rintro i W ⟨_, g2, _⟩
    exact ⟨r5.fr g2 (by omega), h5.fr g2 fun y hy e => by have := hnew y hy; omega⟩
  · rintro i W W' ⟨g1, g2, g3⟩ hf
    exact ⟨g1.fr hf (by omega), g2.trans hf fun y hy e => by omega, by have := hf.size; omega⟩
  · intro i v W Kb hv ⟨g1, g2, g3⟩ hlt hnorm _
    rw [yS_get] at hv
    cases hL : (live 0 S)[i]? with
    | none => rw [hL] at hv; simp at hv
    | some y =>
    rw [hL] at hv
    simp only [Option.map_some, Option.some.injEq] at hv
    subst hv
    have hil : i < (live 0 S).length := (List.getElem?_eq_some_iff.1 hL).1
    refine Al_f rfl rfl fun q w7 r7 e7 z7 f7 => ?_
    refine ⟨by
      rw [(f7 fun _ => False).same _ hlt (by simp)], ?_⟩
    have fb := (busy_ext f7 hlt).trans (Ext.drew _)
    have fW : Fr8 w5 (busyW W (lAt none w5)) (· = pc) := g2.trans (Fr8.busyW W _) fun y hy e => by omega
    have fW' := fW.ext fb
    have q7 : Row (busyW w7 (lAt none w5)).drew q _ := (r7.fr (Fr8.busyW w7 _) (by omega)).drew
    have qc : Row (busyW w7 (lAt none w5)).drew pc _ := ((g1.fr (Fr8.busyW W _) (by omega)).ext fb)
    have qa : Row (busyW w7 (lAt none w5)).drew pa _ := ra5.fr fW' (by omega)
    have hrW := hr5.fr fW' fun y hy e => by have := hnewR y hy; omega
    obtain ⟨aa, ha, hcell⟩ := hrW.cells hL
    have k0 := hcell 0 _ rfl
    have k1 := hcell 1 _ rfl
    have k2 := hcell 2 _ rfl
    have k3 := hcell 3 _ rfl
    have k4 := hcell 4 _ rfl
    have k5 := hcell 5 _ rfl
    rw [Nat.add_zero] at k0
    have c1 : ¬ ((i : Int) ≥ (s.len : Int)) := by omega
    simp only [cond_false, cond_true, ex_some, Ld_eq, List.getElem?_cons_zero, LdV_some, dec_slice, dec_int, dec_ptr, add_mk, Nat.zero_add, Nat.add_zero, qc.cell, qa.cell, hrW.hd.cell, c1, decide_false, AtIx, ha, Int.toNat_natCast, k0]
    refine ⟨by omega, by omega, ?_⟩
    simp only [show (y.1 != y.1) = false by simp, cond_false, List.getElem?_cons_zero, List.getElem?_cons_succ, LdV_some, dec_int, Nat.add_zero, addr_add2, Nat.add_assoc, Nat.reduceAdd, k1, k2, k3, k4, k5, q7.cell, beq_self_eq_true, Bool.and_true, Bool.not_true]
    refine ⟨by omega, by omega, ?_⟩
    rw [wrap_i64 (by omega) (by omega)]
    refine St_row qc rfl (by simp) fun w8 r8 f8 z8 => ?_
    simp only [List.set_cons_zero] at r8
    have f8c := f8 (· = pc) rfl
    refine hnorm w8 (· = pc) (fb.fr f8c) (fun b hb1 hb2 e => by omega) ⟨by simpa using r8, fW'.trans f8c fun y hy e => e, ?_⟩
    have s7 := f7.size
    have : (busyW w7 (lAt none w5)).drew.heap.size = w7.heap.size := by simp [busyW]
    omega
  · rintro W ⟨g1, g2, g3⟩ hm
    have hmk := hm rfl
    rw [hyl] at g1
    have xW : Ext w W := x5.new g2 fun y hy e => by omega
    have qa : Row W pa _ := ra5.fr g2 (by omega)
    have qb : Row W pb _ := rb5.fr g2 (by omega)
    have hrW := hr.ext xW
    have hW := h.ext xW
    simp only [cond_true, Ld_eq, List.getElem?_cons_zero, LdV_some, dec_ptr, qa.cell]
    refine cm_ref24_Table_Of (rof_ok hrW k) ?_
    rintro t w6 ⟨b6, f6, n6⟩
    refine Al_e fun pd w7 r7 e7 z7 f7 => ?_
    refine St_row r7 rfl (by simp) fun w8 r8 f8 z8 => ?_
    simp only [List.set_cons_zero] at r8
    have f8d := f8 (· = pd) rfl
    refine Al_e fun pe w9 r9 e9 z9 f9 => ?_
    refine St_row r9 rfl (by simp) fun w10 r10 f10 z10 => ?_
    simp only [List.set_cons_zero] at r10
    have f10e := f10 (· = pe) rfl
    apply ok_session_Table_Of
    unfold s_session_Table_Of
    refine ⟨rfl, Al_e fun g0 w11 r11 e11 z11 f11 => ⟨rfl, Al_e fun g1' w12 r12 e12 z12 f12 => ?_⟩⟩
    have s6 := f6.size
    have s7 := f7.size
    have s9 := f9.size
    have s11 := f11.size
    have s12 := f12.size
    have y7 : Ext W w8 := (f6.trans f7).new f8d fun y hy e => by omega
    have y10 : Ext W w10 := (y7.trans f9).new f10e fun y hy e => by omega
    have y12 : Ext W w12 := (y10.trans f11).trans f12
    have y812 : Ext w8 w12 := ((f9.new f10e fun y hy e => by omega).trans f11).trans f12
    have r11 := r11.ext f12
    have re12 := (r10.ext f11).ext f12
    have rd12 := r8.ext y812
    have bt12 := (((b6.ext f7).fr f8d fun c hc e => by have := b6.lt hc; omega)).ext y812
    have qa12 := qa.ext y12
    have qb12 := qb.ext y12
    have qc12 := g1.ext y12
    have h12 := hW.ext y12
    have hr12 := hrW.ext y12
    have tl := bt12.len
    have hofl : (ofL S k).length ≤ (live 0 S).length := List.length_filter_le ..
    have hyl2 : (yS (ofL S k)).length = (ofL S k).length := by simp [yS]
    have hla2 : lAt none w12 = w12.heap.size + 1 := rfl
    have eof : (live 0 S).filter (fun y => y.2.bd == k) = ofL S k := rfl
    rw [eof] at bt12 tl
    have btl : ∀ c, SliceV.at t c → c < w6.heap.size := fun c hc => b6.lt hc
    refine rng_iter2 (of_iter most S M A g0 g1' k) (fun i V => Row V pe [.int .i64 (i : Int)] ∧ Fr8 w12 V (· = pe) ∧ w12.heap.size + 2 ≤ V.heap.size) (fun _ _ => False) (by simp) ?_ ?_ ?_ (by intro e W W' h; exact h.elim) (by intro e W h; exact h.elim) ?_ ?_ (by intro W h; exact h.elim) (by intro id W h; exact h.elim)
    · intro w13 f13 z13
      exact ⟨re12.ext f13, f13 _, by omega⟩
    · rintro i V ⟨_, q2, _⟩
      exact ⟨r11.fr q2 (by omega), r12.fr q2 (by omega), h12.fr q2 fun y hy e => by have := hnew y hy; have := xW.size; omega⟩
    · rintro i V V' ⟨q1, q2, q3⟩ hf
      exact ⟨q1.fr hf (by omega), q2.trans hf fun y hy e => by omega, by have := hf.size; omega⟩
    · intro i v V Kb hv ⟨q1, q2, q3⟩ hlt hnorm _
      rw [yS_get] at hv
      cases hL : (ofL S k)[i]? with
      | none => rw [hL] at hv; simp at hv
      | some y =>
      rw [hL] at hv
      simp only [Option.map_some, Option.some.injEq] at hv
      subst hv
      have hil : i < (ofL S k).length := (List.getElem?_eq_some_iff.1 hL).1
      refine Al_f rfl rfl fun q w13 r13 e13 z13 f13 => ?_
      refine ⟨by
        rw [(f13 fun _ => False).same _ hlt (by simp)], ?_⟩
      have fb := (busy_ext f13 hlt).trans (Ext.drew _)
      have fV : Fr8 w12 (busyW V (lAt none w12)) (· = pe) := q2.trans (Fr8.busyW V _) fun y hy e => by omega
      have fV' := fV.ext fb
      have p13 : Row (busyW w13 (lAt none w12)).drew q _ := (r13.fr (Fr8.busyW w13 _) (by omega)).drew
      have pE : Row (busyW w13 (lAt none w12)).drew pe _ := ((q1.fr (Fr8.busyW V _) (by omega)).ext fb)
      have pD : Row (busyW w13 (lAt none w12)).drew pd _ := rd12.fr fV' (by omega)
      have btV := bt12.fr fV' fun c hc e => by have := btl c hc; omega
      obtain ⟨aa, ha, hcell⟩ := (btV.sl rcell_len (by omega)).at_ rcell_len (by omega) hL
      have k0 := hcell 0 _ rfl
      have k1 := hcell 1 _ rfl
      have k2 := hcell 2 _ rfl
      have k3 := hcell 3 _ rfl
      have k4 := hcell 4 _ rfl
      have k5 := hcell 5 _ rfl
      rw [Nat.add_zero] at k0
      have c1 : ¬ ((i : Int) ≥ (t.len : Int)) := by omega
      simp only [cond_false, ex_some, List.getElem?_cons_zero, LdV_some, dec_slice, dec_int, add_mk, Nat.zero_add, Nat.add_zero, pE.cell, pD.cell, c1, decide_false, AtIx, ha, Int.toNat_natCast, k0]
      refine ⟨by omega, by omega, ?_⟩
      simp only [show (y.1 != y.1) = false by simp, cond_false, List.getElem?_cons_zero, List.getElem?_cons_succ, LdV_some, dec_int, Nat.add_zero, addr_add2, Nat.add_assoc, Nat.reduceAdd, k1, k2, k3, k4, k5, p13.cell, beq_self_eq_true, Bool.and_true, Bool.not_true]
      refine ⟨by omega, by omega, ?_⟩
      rw [wrap_i64 (by omega) (by omega)]
      refine St_row pE rfl (by simp) fun w14 r14 f14 z14 => ?_
      simp only [List.set_cons_zero] at r14
      have f14c := f14 (· = pe) rfl
      refine hnorm w14 (· = pe) (fb.fr f14c) (fun b hb => by omega) ⟨by simpa using r14, fV'.trans f14c fun y hy e => e, ?_⟩
      have s13 := f13.size
      have : (busyW w13 (lAt none w12)).drew.heap.size = w13.heap.size := by simp [busyW]
      omega
    · rintro V ⟨q1, q2, q3⟩ hm2
      have hmk2 := hm2 rfl
      rw [hyl2] at q1
      have yV : Ext W V := y12.new q2 fun y hy e => by omega
      have yVd := yV.trans (Ext.drew V)
      have pE := q1.drew
      have pD : Row V.drew pd _ := (rd12.fr q2 (by omega)).drew
      have pA := qa.ext yVd
      have pB := qb.ext yVd
      have pC := g1.ext yVd
      have hrV := hrW.ext yVd
      have hV := hW.ext yVd
      have e1 : (((live 0 S).length : Int) == (s.len : Int)) = true := by rw [ibeq]; exact decide_eq_true (by omega)
      have e2 : (((ofL S k).length : Int) == (t.len : Int)) = true := by rw [ibeq]; exact decide_eq_true (by omega)
      simp only [cond_true, ex_some, List.getElem?_cons_zero, LdV_some, dec_slice, dec_int, dec_ptr, pC.cell, pA.cell, pD.cell, pE.cell, hrV.hd.cell, e1, e2]
      refine cm_session_Table_Len (tlen_ok hV) ?_
      rintro _ w15 ⟨rfl, hw⟩
      subst hw
      simp only [true_and, List.getElem?_cons_zero, pC.cell, beq_self_eq_true]
      refine St_row pB rfl (by simp) fun w16 r16 f16 z16 => ?_
      simp only [List.set_cons_zero] at r16
      have f16b := f16 (· = pb) rfl
      have hdz : V.drew.heap.size = V.heap.size := rfl
      have sW := xW.size
      have pf := Fr8.putDef w16 w12.heap.size (.deferred none)
      have pf2 := Fr8.putDef (w16.putObj w12.heap.size (.deferred none)) w5.heap.size (.deferred none)
      refine ⟨?_, ?_, ?_⟩
      · rw [f16b.same _ (by omega) (by omega)]; exact hmk2
      · rw [pf.same _ (by omega) (by omega), f16b.same _ (by omega) (by omega), (yVd fun _ => False).same _ (by omega) (by simp)]; exact hmk
      · simp only [List.getElem?_cons_zero, LdV_some, dec_bool, ((r16.fr pf (by omega)).fr pf2 (by omega)).cell]
        refine ⟨by trivial, ?_⟩
        exact (((xW.trans yVd).new f16b fun y hy e => by omega).new pf fun y hy e => by omega).new pf2 fun y hy e => by omega

/-- What is new, but for one place. -/
abbrev From (w0 : World) (z : Option Nat) (y : Nat) : Prop := w0.heap.size ≤ y ∧ some y ≠ z

/-- Both, side by side. -/
def Both (w0 w : World) (d x : Nat) (most : Nat) (z : Option Nat) : Prop := ∃ A S M s, A.d = d ∧ TA w A most S M ∧ RF w x s (most : Int) (live 0 S) ∧ (∀ y, fp A y → ¬ fpR x s y) ∧ (∀ y, fp A y → From w0 z y) ∧ (∀ y, fpR x s y → From w0 z y)

theorem Both.ext {w0 w w' : World} {d x most : Nat} {z : Option Nat} (h : Both w0 w d x most z) (hf : Ext w w') : Both w0 w' d x most z := by
  obtain ⟨A, S, M, s, h1, h2, h3, h4, h5, h6⟩ := h
  exact ⟨A, S, M, s, h1, h2.ext hf, h3.ext hf, h4, h5, h6⟩

theorem Both.off {w0 w : World} {d x most : Nat} (h : Both w0 w d x most none) {z : Nat} (hz : w.heap.size ≤ z) : Both w0 w d x most (some z) := by
  obtain ⟨A, S, M, s, h1, h2, h3, h4, h5, h6⟩ := h
  exact ⟨A, S, M, s, h1, h2, h3, h4, fun y hy => ⟨(h5 y hy).1, fun e => by have := h2.lt hy; simp at e; omega⟩, fun y hy => ⟨(h6 y hy).1, fun e => by have := h3.lt hy; simp at e; omega⟩⟩

theorem Both.any {w0 w : World} {d x most : Nat} {z : Option Nat} (h : Both w0 w d x most z) : Both w0 w d x most none := by
  obtain ⟨A, S, M, s, h1, h2, h3, h4, h5, h6⟩ := h
  exact ⟨A, S, M, s, h1, h2, h3, h4, fun y hy => ⟨(h5 y hy).1, by simp⟩, fun y hy => ⟨(h6 y hy).1, by simp⟩⟩

theorem both_add {w0 w : World} {d x most : Nat} {z : Option Nat} (h : Both w0 w d x most z) (hz : ∀ q, z = some q → q < w.heap.size) (b : Ses) (hb : b.ok) :
    c_session_Table_Add (some ⟨d, 0, none⟩) b.bd b.st b.un b.ra b.rp w fun n e w1 => Fr8 w w1 (From w0 z) ∧
      c_ref24_Table_Add (some ⟨x, 0, none⟩) b.bd b.st b.un b.ra b.rp w1 fun n' e' w2 => n' = n ∧ e' = e ∧ Both w0 w2 d x most z ∧ Fr8 w1 w2 (From w0 z) := by
  obtain ⟨A, S, M, s, rfl, hd, hr, h4, h5, h6⟩ := h
  refine cm_session_Table_Add (tadd_ok hd b hb) ?_
  rintro n e w1 ⟨he, f1, A', S', M', hd', hdd, hfp, hS⟩
  refine ⟨f1.mono fun y hy => h5 y hy, ?_⟩
  have hr1 := hr.fr f1 fun y hy hx => h4 y hx hy
  have hl := hd.len
  have hm := hd.mx
  have fk := Gp.Ses.find_k hd.good (q := b.k) hb rfl
  have hai : (M (Bind.keyS b.k)).isSome = ((live 0 S).find? fun y => decide (y.2.k = b.k)).isSome := by rw [fk, Option.isSome_map]
  have hfree : ∀ i, freeN S = some i → _ := fun i => Gp.Ses.freeN_some (S := S) (i := i) 0
  have hnone := Gp.Ses.freeN_none (S := S) 0
  have hll := Gp.Ses.live_len_le S 0
  have hi : ¬ ((most : Int) ≤ ((live 0 S).length : Int)) → (freeN S).getD 0 ≤ (live 0 S).length ∧ (∀ j, j < (freeN S).getD 0 → ∃ c, (live 0 S)[j]? = some ((j : Int), c)) ∧ ∀ v c, (live 0 S)[(freeN S).getD 0]? = some (v, c) → v ≠ (((freeN S).getD 0 : Nat) : Int) := by
    intro hnf
    cases hf : freeN S with
    | none => have := hnone hf; omega
    | some i =>
      obtain ⟨g1, g2, g3, g4, g5, g6, g7⟩ := hfree i hf
      refine ⟨g4, fun j hj => ?_, fun v c hv => ?_⟩
      · obtain ⟨c, hc, _⟩ := g5 j hj
        exact ⟨c, by rw [hc]; simp⟩
      · have := g6 v c hv
        simpa using this
  refine cm_ref24_Table_Add (radd_ok hr1 b ((freeN S).getD 0) (by omega) hi) ?_
  rintro n' e' w2 ⟨he', f2, s', hr2, hs'⟩
  have heq : raddR (live 0 S) most b ((freeN S).getD 0) = addS S M b := by
    unfold raddR addS
    rw [hai]
    split
    · rfl
    · cases hf : freeN S with
      | none =>
        have := hnone hf
        rw [if_pos (by omega)]
      | some i =>
        obtain ⟨g1, g2, g3, _⟩ := hfree i hf
        rw [if_neg (by omega)]; rfl
  rw [heq] at he' hr2
  rw [← he, Prod.mk.injEq] at he'
  refine ⟨he'.1, he'.2, ⟨A', S', M', s', hdd, hd'.fr f2 fun y hy e => ?_, ?_, ?_, ?_, ?_⟩, f2.mono fun y hy => by rw [hy]; exact h6 x (.inl rfl)⟩
  · have hxl := hr.hd.lt
    rcases hfp y hy with h8 | h8
    · exact h4 y h8 (.inl e)
    · omega
  · have hL : (if (addS S M b).2 = 0 then (live 0 S).take ((freeN S).getD 0) ++ ((((freeN S).getD 0 : Nat) : Int), b) :: (live 0 S).drop ((freeN S).getD 0) else live 0 S) = live 0 S' := by
      rw [hS]
      by_cases h0 : (addS S M b).2 = 0
      · rw [if_pos h0, if_pos h0]
        unfold addS at h0 ⊢
        split at h0
        · simp at h0
        · rename_i hc
          rw [if_neg hc]
          cases hf : freeN S with
          | none => rw [hf] at h0; simp at h0
          | some i =>
            obtain ⟨_, _, _, _, _, _, g7⟩ := hfree i hf
            simp only [Option.getD_some, Int.toNat_natCast]
            rw [g7 b]; simp
      · rw [if_neg h0, if_neg h0]
    rw [hL] at hr2
    exact hr2
  · rintro y hy (h9 | h9)
    · have hxl := hr.hd.lt
      rcases hfp y hy with h8 | h8
      · exact h4 y h8 (.inl h9)
      · omega
    · rcases hs' y h9 with h9 | h9
      · rcases hfp y hy with h8 | h8
        · exact h4 y h8 (.inr h9)
        · have := hr.buf.lt h9; omega
      · have := hd'.lt hy
        omega
  · intro y hy
    rcases hfp y hy with h8 | h8
    · exact h5 y h8
    · have h5d := (h5 A.d (.inl rfl)).1
      have hdl := hd.hd.lt
      exact ⟨by omega, fun e => by have := hz y e.symm; omega⟩
  · rintro y (h9 | h9)
    · rw [h9]; exact h6 x (.inl rfl)
    · rcases hs' y h9 with h9 | h9
      · exact h6 y (.inr h9)
      · have h5d := (h5 A.d (.inl rfl)).1
        have hdl := hd.hd.lt
        have hf1 := f1.size
        exact ⟨by omega, fun e => by have := hz y e.symm; omega⟩

theorem both_remove {w0 w : World} {d x most : Nat} {z : Option Nat} (h : Both w0 w d x most z) (hz : ∀ q, z = some q → q < w.heap.size) (id : Int) :
    c_session_Table_Remove (some ⟨d, 0, none⟩) id w fun r w1 => Fr8 w w1 (From w0 z) ∧
      c_ref24_Table_Remove (some ⟨x, 0, none⟩) id w1 fun r' w2 => r' = r ∧ Both w0 w2 d x most z ∧ Fr8 w1 w2 (From w0 z) := by
  obtain ⟨A, S, M, s, rfl, hd, hr, h4, h5, h6⟩ := h
  refine cm_session_Table_Remove (tremove_ok hd id) ?_
  rintro _ w1 ⟨rfl, f1, A', S', M', hd', hdd, hfp, hS⟩
  refine ⟨f1.mono fun y hy => h5 y hy, ?_⟩
  have hr1 := hr.fr f1 fun y hy hx => h4 y hx hy
  refine cm_ref24_Table_Remove (rremove_ok hr1 id) ?_
  rintro _ w2 ⟨rfl, f2, s', hr2, hs'⟩
  have hfid := Gp.Ses.find_id (S := S) id
  have hsome : ((live 0 S).find? fun y => y.1 == id).isSome = (getS S id).isSome := by rw [← hfid, Option.isSome_map]
  have z1 := f1.size
  refine ⟨hsome, ⟨A', S', M', s', hdd, hd'.fr f2 fun y hy e => h4 y (hfp y hy) (.inl e), ?_, ?_, fun y hy => h5 y (hfp y hy), ?_⟩, f2.mono fun y hy => by rw [hy]; exact h6 x (.inl rfl)⟩
  · have hL : ((live 0 S).filter fun y => y.1 != id) = live 0 S' := by
      rw [hS]
      cases hg : getS S id with
      | none =>
        simp only [Option.isSome_none, Bool.false_eq_true, if_false]
        rw [hg, Option.map_eq_none_iff] at hfid
        refine List.filter_eq_self.2 fun y hy => ?_
        have := List.find?_eq_none.1 hfid y hy
        simpa using this
      | some b =>
        simp only [Option.isSome_some, if_true]
        obtain ⟨g0, _⟩ := Gp.Ses.getS_some.1 hg
        rw [Gp.Ses.live_remove]
        congr 1
        funext y
        rw [show ((0 + id.toNat : Nat) : Int) = id by omega]
    rw [hL] at hr2
    exact hr2
  · rintro y hy (h9 | h9)
    · exact h4 y (hfp y hy) (.inl h9)
    · have := hs' y h9
      have := hd.lt (hfp y hy)
      omega
  · rintro y (h9 | h9)
    · rw [h9]; exact h6 x (.inl rfl)
    · have hs9 := hs' y h9
      have h5d := (h5 A.d (.inl rfl)).1
      have hdl := hd.hd.lt
      exact ⟨by omega, fun e => by have := hz y e.symm; omega⟩

theorem set_map {L : List (Int × Ses)} (hs : L.Pairwise fun x y => x.1 < y.1) {i : Nat} {id : Int} {b : Ses} (b' : Ses) (hi : L[i]? = some (id, b)) : L.set i (id, b') = L.map fun x => if x.1 = id then (x.1, b') else x := by
  induction L generalizing i with
  | nil => simp at hi
  | cons c r ih =>
    rw [List.pairwise_cons] at hs
    cases i with
    | zero =>
      simp only [List.getElem?_cons_zero, Option.some.injEq] at hi
      subst hi
      have hno : ∀ x ∈ r, (if x.1 = id then (x.1, b') else x) = x := fun x hx => by rw [if_neg (by have := hs.1 x hx; simp only at this; omega)]
      rw [List.set_cons_zero, List.map_cons, if_pos rfl, List.map_congr_left hno, List.map_id']
    | succ i =>
      simp only [List.getElem?_cons_succ] at hi
      have := hs.1 _ (List.mem_of_getElem? hi)
      rw [List.set_cons_succ, ih hs.2 hi, List.map_cons, if_neg (by simp only at this; omega)]

theorem both_set {w0 w : World} {d x most : Nat} {z : Option Nat} (h : Both w0 w d x most z) (id st un : Int) :
    c_session_Table_Set (some ⟨d, 0, none⟩) id st un w fun r w1 => Fr8 w w1 (From w0 z) ∧
      c_ref24_Table_Set (some ⟨x, 0, none⟩) id st un w1 fun r' w2 => r' = r ∧ Both w0 w2 d x most z ∧ Fr8 w1 w2 (From w0 z) := by
  obtain ⟨A, S, M, s, rfl, hd, hr, h4, h5, h6⟩ := h
  refine cm_session_Table_Set (tset_ok hd id st un) ?_
  rintro _ w1 ⟨rfl, f1, S', hd', hS⟩
  refine ⟨f1.mono fun y hy => h5 y hy, ?_⟩
  have hr1 := hr.fr f1 fun y hy hx => h4 y hx hy
  refine cm_ref24_Table_Set (rset_ok hr1 id st un) ?_
  rintro r w2 ⟨f2, hres⟩
  have hfid := Gp.Ses.find_id (S := S) id
  have hat : Fr8 w1 w2 (From w0 z) := f2.mono fun y hy => h6 y (.inr hy)
  have hdd := hd'.fr f2 fun y hy e => h4 y hy (.inr e)
  rcases hres with ⟨hn, rfl, hr2⟩ | ⟨i, b', hi, rfl, hr2⟩
  · rw [hn] at hfid
    have hg : getS S id = none := hfid.symm
    rw [hg] at hS ⊢
    simp only at hS
    subst hS
    exact ⟨rfl, ⟨A, S', M, s, rfl, hdd, hr2, h4, h5, h6⟩, hat⟩
  · obtain ⟨j, hj, hij⟩ := Gp.Ses.mem_live.1 (List.mem_of_getElem? hi)
    have hid : id.toNat = j := by omega
    have hg : getS S id = some b' := Gp.Ses.getS_some.2 ⟨by omega, by rw [hid]; exact hj⟩
    rw [hg] at hS ⊢
    simp only at hS
    refine ⟨rfl, ⟨A, S', M, s, rfl, hdd, ?_, h4, h5, h6⟩, hat⟩
    rw [set_map (Gp.Ses.live_sorted S 0).1 _ hi] at hr2
    rw [hS, hid, Gp.Ses.live_put _ 0 hj, show ((0 + j : Nat) : Int) = id by omega]
    exact hr2

theorem lives24_ok {w : World} {s : SliceV} (most : Int) (hs : DoIn w s) : c_law24_SessionLives most s w fun r w' => r = true ∧ Ext w w' := by
  apply ok_law24_SessionLives
  unfold s_law24_SessionLives
  refine cm_law24_awake (awake24_ok w) ?_
  rintro _ w1 ⟨rfl, f1⟩
  simp -zeta only [Bool.not_true, cond_false]
  refine cm_session_New (tnew_ok most w1) ?_
  rintro p e w2 ⟨f2, hp⟩
  refine cm_ref24_New (rnewb_ok most w2) ?_
  rintro q e' w3 ⟨f3, hq⟩
  have x3 : Ext w w3 := (f1.trans f2).trans f3
  have fin : ∀ W, Ext w W → c_law24_awake W fun r w' => r = true ∧ Ext w w' := by
    intro W hW
    refine cm_law24_awake (awake24_ok W) ?_
    rintro _ w9 ⟨rfl, f9⟩
    exact ⟨rfl, hW.trans f9⟩
  have hsl := hs.1
  intro J11
  rcases hp with ⟨hbad, rfl, rfl⟩ | ⟨hp1, hp2, rfl, A, rfl, hfp, hd⟩
  · rcases hq with ⟨_, rfl, rfl⟩ | ⟨hq1, hq2, _⟩
    · simp only [J11, show ((1 : Int) != 1) = false from rfl, Option.isNone_none, cond_false, show ((true : Bool) == true) = true from rfl, Bool.not_true, cond_true]
      refine LoopP_inv (fun st W => st.1 = 0 ∧ Ext w W) (fun st _ => 0) ⟨rfl, x3⟩ ?_
      rintro ⟨k, ⟨⟩⟩ W ⟨rfl, hx⟩ next hnext
      by_cases hlt : (0 : Int) < (s.len : Int)
      · obtain ⟨op, id, b, a, hb, ha, hc⟩ := (hs.ext hx).2 0 (by omega)
        have k0 := hc 0 _ rfl
        have k1 := hc 1 _ rfl
        have k2 := hc 2 _ rfl
        have k3 := hc 3 _ rfl
        have k4 := hc 4 _ rfl
        have k5 := hc 5 _ rfl
        have k6 := hc 6 _ rfl
        simp only [Nat.zero_mul, Nat.zero_add] at k0 k1 k2 k3 k4 k5 k6
        simp only [hlt, decide_true, cond_true, ex_some, Ld_eq, LdV_some, dec_int, Nat.zero_add, Nat.add_zero, AtIx, ha, Int.toNat_zero, Nat.zero_mul, addr_add2, k0, k1, k2, k3, k4, k5, k6]
        refine ⟨by first | trivial | omega, by first | trivial | omega, Al_f rfl rfl fun z w4 r4 e4 z4 f4 => ?_⟩
        simp only [show decide ((0 : Int) ≥ 60) = false from rfl, cond_false]
        exact fin w4 (hx.trans f4)
      · simp only [hlt, decide_false, cond_false]
        exact fin W hx
    · exact absurd ⟨hq1, hq2⟩ hbad
  · rcases hq with ⟨hbad, _, _⟩ | ⟨hq1, hq2, rfl, x, rfl, hxl, hxl2, hr⟩
    · exact absurd ⟨hp1, hp2⟩ hbad
    · simp -zeta only [show ((0 : Int) != 0) = false from rfl, Option.isNone_some, cond_false, show ((false : Bool) == false) = true from rfl, Bool.not_true]
      show J11 false
      simp -zeta only [J11, cond_false]
      intro J13
      have h13 : ∀ W, Ext w W → J13 W := fun W hW => fin W hW
      have hboth : Both w w3 A.d x most.toNat none := by
        have z1 := f1.size
        have z2 := f2.size
        have hlr : live 0 (List.replicate most.toNat (none : Option Ses)) = [] := by
          have : ∀ (k j : Nat), live j (List.replicate k (none : Option Ses)) = [] := by
            intro k
            induction k with
            | zero => intro j; rfl
            | succ k ih => intro j; rw [List.replicate_succ, Gp.Ses.live]; exact ih _
          exact this _ _
        refine ⟨A, _, _, ⟨none, 0, 0⟩, rfl, hd.ext f3, ?_, ?_, ?_, ?_⟩
        · rw [hlr, show ((most.toNat : Nat) : Int) = most by omega]; exact hr
        · rintro y hy (h9 | ⟨o, h9⟩)
          · have := hd.lt hy; omega
          · cases h9
        · intro y hy; have := hfp y hy; exact ⟨by omega, by simp⟩
        · rintro y (h9 | ⟨o, h9⟩)
          · exact ⟨by omega, by simp⟩
          · cases h9
      refine LoopP_inv (fun st W => ∃ i : Nat, i ≤ s.len ∧ st.1 = (i : Int) ∧ Ext w W ∧ Both w W A.d x most.toNat none) (fun st _ => s.len - st.1.toNat) ⟨0, by omega, rfl, x3, hboth⟩ ?_
      rintro ⟨k, ⟨⟩⟩ W ⟨i, hi, rfl, hx, hbo⟩ next hnext
      by_cases hlt : i < s.len
      · have hlt' : ((i : Int) < (s.len : Int)) := by omega
        obtain ⟨op, id, b, a, hb, ha, hc⟩ := (hs.ext hx).2 i hlt
        have k0 := hc 0 _ rfl
        have k1 := hc 1 _ rfl
        have k2 := hc 2 _ rfl
        have k3 := hc 3 _ rfl
        have k4 := hc 4 _ rfl
        have k5 := hc 5 _ rfl
        have k6 := hc 6 _ rfl
        simp only [Nat.add_zero] at k0
        simp -zeta only [hlt', decide_true, Option.isNone_some, cond_true, ex_some, Ld_eq, LdV_some, dec_int, Nat.add_zero, AtIx, ha, Int.toNat_natCast, addr_add2, k0, k1, k2, k3, k4, k5, k6]
        refine ⟨by first | trivial | omega, by first | trivial | omega, Al_f rfl rfl fun z w4 r4 e4 z4 f4 => ?_⟩
        have x4 := hx.trans f4
        have hzw : w.heap.size ≤ z := by have := hx.size; omega
        have bo4 := (hbo.off (z := z) (by omega)).ext f4
        intro J31
        by_cases h60 : (i : Int) ≥ 60
        · simp only [h60, decide_true, cond_true, J31]
          exact h13 w4 x4
        simp -zeta only [h60, decide_false, cond_false]
        show J31 false
        simp -zeta only [J31, cond_false]
        intro J33
        -- the comparing
        have h33 : ∀ W5, Row W5 z [.int .i64 op, .int .i64 id, .int .i64 b.bd, .int .i64 b.st, .int .i64 b.un, .int .i64 b.ra, .int .i64 b.rp] → Ext w W5 → Both w W5 A.d x most.toNat none → J33 true W5 := by
          intro W5 r5 x5 bo5
          obtain ⟨A', S, M, t, hA, hdb, hrf, h4, h5, h6⟩ := bo5
          have fk := Gp.Ses.find_k hdb.good (q := b.k) hb rfl
          have hfid := Gp.Ses.find_id (S := S) id
          have hsome : ((live 0 S).find? fun y => y.1 == id).isSome = (getS S id).isSome := by rw [← hfid, Option.isSome_map]
          simp only [J33, cond_true, List.getElem?_cons_zero, List.getElem?_cons_succ, LdV_some, dec_int, add_mk, Nat.zero_add, r5.cell]
          rw [← hA]
          refine cm_session_Table_Get (tget_ok hdb id) ?_
          rintro _ _ _ _ _ _ w6 ⟨rfl, ⟨rfl, rfl, rfl, rfl, rfl⟩, f6⟩
          refine Al_f rfl rfl fun g7 w7 r7 e7 z7 f7 => ?_
          have y7 := f6.trans f7
          simp only [List.getElem?_cons_zero, List.getElem?_cons_succ, LdV_some, dec_int, add_mk, Nat.zero_add, Nat.add_zero, (r5.ext y7).cell]
          refine cm_ref24_Table_Get (rgetb_ok (hrf.ext y7) id) ?_
          rw [hfid]
          rintro _ _ _ _ _ _ w8 ⟨rfl, ⟨rfl, rfl, rfl, rfl, rfl⟩, f8⟩
          refine Al_f rfl rfl fun g9 w9 r9 e9 z9 f9 => ?_
          have y9 := y7.trans (f8.trans f9)
          simp only [List.getElem?_cons_zero, List.getElem?_cons_succ, LdV_some, dec_int, add_mk, Nat.zero_add, Nat.add_zero, (r5.ext y9).cell]
          refine cm_session_Table_Find (tfind_ok (hdb.ext y9) _ _ _ hb) ?_
          rintro n10 t10 w10 ⟨ht10, hn10, f10⟩
          have y10 := y9.trans f10
          simp only [List.getElem?_cons_zero, List.getElem?_cons_succ, LdV_some, dec_int, (r5.ext y10).cell]
          refine cm_ref24_Table_Find (rfind_ok (hrf.ext y10) _ _ _) ?_
          rintro n11 t11 w11 ⟨ht11, hn11, f11⟩
          have y11 := y10.trans f11
          have q1 : n10 = n11 := by rw [hn10, hn11]; exact congrArg (fun o => Option.getD o 0) fk
          have q2 : t10 = t11 := by
            rw [ht10, ht11]
            have := congrArg Option.isSome fk
            rwa [Option.isSome_map] at this
          subst q1 q2
          have r7' := r7.ext ((f8.trans f9).trans (f10.trans f11))
          have r9' := r9.ext (f10.trans f11)
          simp only [cond_false, List.getElem?_cons_zero, List.getElem?_cons_succ, LdV_some, dec_int, r7'.cell, r9'.cell, (r5.ext y11).cell, beq_self_eq_true, Bool.and_true, Bool.not_true, bne_self_eq_false, hsome]
          refine cm_law24_same (same24_ok (hdb.ext y11) (hrf.ext y11) b.bd) ?_
          rintro _ w14 ⟨rfl, f14⟩
          simp only [Bool.not_true, cond_false]
          rw [wrap_i64 (by omega) (by omega)]
          have y14 := y11.trans f14
          exact hnext _ _ ⟨i + 1, by omega, by simp, x5.trans y14, ⟨A', S, M, t, hA, hdb.ext y14, hrf.ext y14, h4, h5, h6⟩⟩ (by simp only; omega)
        have hz4 : ∀ q, some z = some q → q < w4.heap.size := fun q e => by simp at e; omega
        have nz : ¬ From w (some z) z := fun e => e.2 rfl
        clear_value J33
        simp -zeta only [List.getElem?_cons_zero, List.getElem?_cons_succ, LdV_some, dec_int, add_mk, Nat.zero_add, r4.cell]
        intro J87
        have h87 : ∀ j, J87 j := by
          intro j
          cases j with
          | true =>
            simp only [J87, cond_true]
            refine cm_session_Table_Add (both_add bo4 hz4 b hb) ?_
            rintro n e w5 ⟨f5, href⟩
            have r5 := r4.fr f5 nz
            simp only [List.getElem?_cons_zero, List.getElem?_cons_succ, LdV_some, dec_int, r5.cell]
            refine cm_ref24_Table_Add href ?_
            rintro n' e' w6 ⟨rfl, rfl, bo6, f6⟩
            simp only [beq_self_eq_true, cond_true]
            exact h33 w6 (r5.fr f6 nz) ((x4.new f5 fun y hy h => by have := h.1; omega).new f6 fun y hy h => by have := h.1; omega) bo6.any
          | false =>
            have bo4d := bo4.ext (Ext.drew _)
            simp only [J87, cond_false]
            cases op == 3 with
            | true =>
              simp only [r4.drew.cell, cond_true, List.getElem?_cons_zero, List.getElem?_cons_succ, LdV_some, dec_int]
              refine cm_session_Table_Set (both_set bo4d id b.st b.un) ?_
              rintro r w5 ⟨f5, href⟩
              have r5 := r4.drew.fr f5 nz
              simp only [true_and, List.getElem?_cons_zero, List.getElem?_cons_succ, r5.cell]
              refine cm_ref24_Table_Set href ?_
              rintro r' w6 ⟨rfl, bo6, f6⟩
              simp only [beq_self_eq_true]
              exact h33 w6 (r5.fr f6 nz) (((x4.trans (Ext.drew _)).new f5 fun y hy h => by have := h.1; omega).new f6 fun y hy h => by have := h.1; omega) bo6.any
            | false =>
              simp only [r4.drew.cell, cond_false, List.getElem?_cons_zero, List.getElem?_cons_succ, LdV_some, dec_int]
              refine cm_session_Table_Remove (both_remove bo4d hz4 id) ?_
              rintro r w5 ⟨f5, href⟩
              have r5 := r4.drew.fr f5 nz
              simp only [true_and, List.getElem?_cons_zero, List.getElem?_cons_succ, r5.cell]
              refine cm_ref24_Table_Remove href ?_
              rintro r' w6 ⟨rfl, bo6, f6⟩
              simp only [beq_self_eq_true]
              exact h33 w6 (r5.fr f6 nz) (((x4.trans (Ext.drew _)).new f5 fun y hy h => by have := h.1; omega).new f6 fun y hy h => by have := h.1; omega) bo6.any
        clear_value J87
        cases (op == 0) with
        | true => exact h87 _
        | false =>
          cases (op == 1) with
          | true => exact h87 _
          | false => exact h87 _
      · have hlt' : ¬ ((i : Int) < (s.len : Int)) := by omega
        simp only [hlt', decide_false, cond_false]
        exact h13 W hx
end Go.Proofs
