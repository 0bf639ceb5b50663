import Derived.Test.YtgnlnicmgnkliaaBind5
/- The law BindLives. -/
namespace Go.Proofs
open Gp Gp.Hash
open Gp.Bind (Bnd Slots live GoodB freeN getS In64)
set_option maxRecDepth 100000

theorem busy_ext {W W' : World} {l : Nat} (h : Ext W W') (hl : l < W.heap.size) : Ext (busyW W l) (busyW W' l) := by
  intro S
  have hs := h.size
  refine ⟨by simpa [busyW] using hs, fun b hb _ => ?_, (h S).io⟩
  have hb : b < W.heap.size := by simpa [busyW] using hb
  have e := (h fun _ => False).same b hb (by simp)
  simp only [busyW, Array.getElem?_modify, e]

theorem yD_get (L : List (Int × Bnd)) (i : Nat) : (yD L)[i]? = (L[i]?).map fun x => (x.1, (x.2.sw, x.2.pr, x.2.ad, x.2.po, x.2.opr, x.2.oad, x.2.opo, x.2.st, ()), ()) := by simp [yD]

theorem same22_ok {w : World} {A : Adr} {most x : Nat} {S : Slots} {Mi Mo : ByteArray → Option Int} {s : SliceV} {m : Int} (h : DB w A most S Mi Mo) (hr : RF w x s m (live 0 S)) :
    c_law22_same (some ⟨A.d, 0, none⟩) (some ⟨x, 0, none⟩) w fun r w' => r = true ∧ Ext w w' := by
  apply ok_law22_same
  unfold s_law22_same
  refine ⟨rfl, Al_e fun pa w1 r1 e1 z1 f1 => Al_e fun pb w2 r2 e2 z2 f2 => Al_e fun pc w3 r3 e3 z3 f3 => ?_⟩
  refine St_row r3 rfl (by simp) fun w4 r4 f4 z4 => ?_
  simp only [List.set_cons_zero] at r4
  have f4c := f4 (· = pc) rfl
  have ra4 := ((r1.ext f2).ext f3).fr f4c (by omega)
  have rb4 := (r2.ext f3).fr f4c (by omega)
  have x4 : Ext w w4 := ((f1.trans f2).trans f3).new f4c fun y hy e => by omega
  apply ok_bind_DB_All
  unfold s_bind_DB_All
  refine ⟨rfl, Al_e fun fc w5 r5 e5 z5 f5 => ?_⟩
  have x5 := x4.trans f5
  have ra5 := ra4.ext f5
  have rb5 := rb4.ext f5
  have rc5 := r4.ext f5
  have h5 := h.ext x5
  have hr5 := hr.ext x5
  have s4 := x4.size
  have s1 := f1.size
  have s2 := f2.size
  have s3 := f3.size
  have s5 := f5.size
  have hla : lAt none w5 = w5.heap.size + 1 := rfl
  have hll := hr.len
  have hlen := hr.buf.len
  have hyl : (yD (live 0 S)).length = (live 0 S).length := by simp [yD]
  have hnew : ∀ y, fp A y → y < w.heap.size := fun y hy => by
    rcases hy with hy | hy | hy | hy | hy | hy
    · rw [hy]; exact h.hd.lt
    · rw [hy]; exact h.row.lt
    · obtain ⟨L, t, _⟩ := h.tI; rw [hy]; exact t.ht.hd.lt
    · obtain ⟨L, t, _⟩ := h.tI
      rw [hy]
      by_cases hL : L = []
      · rw [t.nils hL]; exact t.ht.hd.lt
      · exact (t.ht.row hL).lt
    · obtain ⟨L, t, _⟩ := h.tO; rw [hy]; exact t.ht.hd.lt
    · obtain ⟨L, t, _⟩ := h.tO
      rw [hy]
      by_cases hL : L = []
      · rw [t.nils hL]; exact t.ht.hd.lt
      · exact (t.ht.row hL).lt
  have hnewR : ∀ y, fpR x s y → y < w.heap.size := fun y hy => by
    rcases hy with hy | hy
    · rw [hy]; exact hr.hd.lt
    · exact hr.buf.lt hy
  refine rng_iter (all_iter most S Mi Mo A fc) (fun i W => Row W pc [.int .i64 (i : Int)] ∧ Fr8 w5 W (· = pc) ∧ w5.heap.size + 2 ≤ W.heap.size) (fun _ _ => False) (by simp) ?_ ?_ ?_ (by intro e W W' h; exact h.elim) (by intro e W h; exact h.elim) ?_ ?_ (by intro W h; exact h.elim) (by intro id W h; exact h.elim)
  · intro w6 f6 z6
    exact ⟨rc5.ext f6, f6 _, by omega⟩
  · rintro i W ⟨_, g2, _⟩
    exact ⟨r5.fr g2 (by omega), h5.fr g2 fun y hy e => by have := hnew y hy; omega⟩
  · rintro i W W' ⟨g1, g2, g3⟩ hf
    exact ⟨g1.fr hf (by omega), g2.trans hf fun y hy e => by omega, by have := hf.size; omega⟩
  · intro i v W Kb hv ⟨g1, g2, g3⟩ hlt hnorm _
    rw [yD_get] at hv
    cases hL : (live 0 S)[i]? with
    | none => rw [hL] at hv; simp at hv
    | some y =>
    rw [hL] at hv
    simp only [Option.map_some, Option.some.injEq] at hv
    subst hv
    have hil : i < (live 0 S).length := (List.getElem?_eq_some_iff.1 hL).1
    refine Al_f rfl rfl fun q w7 r7 e7 z7 f7 => ?_
    refine ⟨by
      rw [(f7 fun _ => False).same _ hlt (by simp)], ?_⟩
    have fb := (busy_ext f7 hlt).trans (Ext.drew _)
    have fW : Fr8 w5 (busyW W (lAt none w5)) (· = pc) := g2.trans (Fr8.busyW W _) fun y hy e => by omega
    have fW' := fW.ext fb
    have q7 : Row (busyW w7 (lAt none w5)).drew q _ := (r7.fr (Fr8.busyW w7 _) (by omega)).drew
    have qc : Row (busyW w7 (lAt none w5)).drew pc _ := ((g1.fr (Fr8.busyW W _) (by omega)).ext fb)
    have qa : Row (busyW w7 (lAt none w5)).drew pa _ := ra5.fr fW' (by omega)
    have hrW := hr5.fr fW' fun y hy e => by have := hnewR y hy; omega
    obtain ⟨aa, ha, hcell⟩ := hrW.cells hL
    have k0 := hcell 0 _ rfl
    have k1 := hcell 1 _ rfl
    have k2 := hcell 2 _ rfl
    have k3 := hcell 3 _ rfl
    have k4 := hcell 4 _ rfl
    have k5 := hcell 5 _ rfl
    have k6 := hcell 6 _ rfl
    have k7 := hcell 7 _ rfl
    have k8 := hcell 8 _ rfl
    rw [Nat.add_zero] at k0
    have c1 : ¬ ((i : Int) ≥ (s.len : Int)) := by omega
    simp only [cond_false, cond_true, ex_some, Ld_eq, List.getElem?_cons_zero, LdV_some, dec_slice, dec_int, dec_ptr, add_mk, Nat.zero_add, Nat.add_zero, qc.cell, qa.cell, hrW.hd.cell, c1, decide_false, AtIx, ha, Int.toNat_natCast, k0]
    refine ⟨by omega, by omega, ?_⟩
    simp only [show (y.1 != y.1) = false by simp, cond_false, List.getElem?_cons_zero, List.getElem?_cons_succ, LdV_some, dec_int, dec_bool, Nat.add_zero, addr_add2, Nat.add_assoc, Nat.reduceAdd, k1, k2, k3, k4, k5, k6, k7, k8, q7.cell, beq_self_eq_true, Bool.and_true, Bool.not_true]
    refine ⟨by omega, by omega, ?_⟩
    rw [wrap_i64 (by omega) (by omega)]
    refine St_row qc rfl (by simp) fun w8 r8 f8 z8 => ?_
    simp only [List.set_cons_zero] at r8
    have f8c := f8 (· = pc) rfl
    refine hnorm w8 (· = pc) (fb.fr f8c) (fun b hb1 hb2 e => by omega) ⟨by simpa using r8, fW'.trans f8c fun y hy e => e, ?_⟩
    have s7 := f7.size
    have : (busyW w7 (lAt none w5)).drew.heap.size = w7.heap.size := by simp [busyW]
    omega
  · rintro W ⟨g1, g2, g3⟩ hm
    have hmk := hm rfl
    rw [hyl] at g1
    have qc := g1.drew
    have g2d := g2.ext (Ext.drew W)
    have qa : Row W.drew pa _ := ra5.fr g2d (by omega)
    have qb : Row W.drew pb _ := rb5.fr g2d (by omega)
    have hrW := hr5.fr g2d fun y hy e => by have := hnewR y hy; omega
    have hW := h5.fr g2d fun y hy e => by have := hnew y hy; omega
    have e1 : (((live 0 S).length : Int) == (s.len : Int)) = true := by rw [ibeq]; exact decide_eq_true (by omega)
    simp only [cond_true, ex_some, Ld_eq, List.getElem?_cons_zero, LdV_some, dec_slice, dec_int, dec_ptr, qc.cell, qa.cell, hrW.hd.cell, e1]
    refine cm_bind_DB_Len (dlen_ok hW) ?_
    rintro _ w6 ⟨rfl, hw⟩
    subst hw
    simp only [true_and, List.getElem?_cons_zero, qc.cell, beq_self_eq_true]
    refine St_row qb rfl (by simp) fun w7 r7 f7 z7 => ?_
    simp only [List.set_cons_zero] at r7
    have f7b := f7 (· = pb) rfl
    have hdz : W.drew.heap.size = W.heap.size := rfl
    refine ⟨?_, ?_⟩
    · rw [f7b.same _ (by omega) (by omega)]; exact hmk
    · have pf := Fr8.putDef w7 w5.heap.size (.deferred none)
      simp only [List.getElem?_cons_zero, LdV_some, dec_bool, (r7.fr pf (by omega)).cell]
      refine ⟨by trivial, ?_⟩
      exact ((x5.new g2d fun y hy e => by omega).new f7b fun y hy e => by omega).new pf fun y hy e => by omega

theorem bnd_ok {b : Bnd} (h1 : In64 b.sw) (h2 : In64 b.pr) (h3 : In64 b.ad) (h4 : In64 b.po) (h5 : In64 b.opr) (h6 : In64 b.oad) (h7 : In64 b.opo) : b.ok := by
  constructor
  · intro n hn
    simp only [Bnd.i, List.mem_cons, List.not_mem_nil, or_false] at hn
    rcases hn with rfl | rfl | rfl | rfl <;> assumption
  · intro n hn
    simp only [Bnd.o, List.mem_cons, List.not_mem_nil, or_false] at hn
    rcases hn with rfl | rfl | rfl <;> assumption

/-- What comes in as calls. -/
def doCell (op id : Int) (b : Bnd) : List Value := [.int .i64 op, .int .i64 id, .int .i64 b.sw, .int .i64 b.pr, .int .i64 b.ad, .int .i64 b.po, .int .i64 b.opr, .int .i64 b.oad, .int .i64 b.opo, .bool b.st]

def DoIn (w : World) (s : SliceV) : Prop := s.len ≤ 2 ^ 63 - 1 ∧ ∀ k, k < s.len → ∃ (op id : Int) (b : Bnd) (a : Addr), b.ok ∧ s.a = some a ∧ ∀ j v, (doCell op id b)[j]? = some v → w.cell? (a.add (k * 10 + j)) = some v

theorem DoIn.ext {w w' : World} {s : SliceV} (h : DoIn w s) (hf : Ext w w') : DoIn w' s :=
  ⟨h.1, fun k hk => by obtain ⟨op, id, b, a, h1, h2, h3⟩ := h.2 k hk; exact ⟨op, id, b, a, h1, h2, fun j v hj => cell_ext (h3 j v hj) hf⟩⟩

theorem DB.lt {w : World} {A : Adr} {most : Nat} {S : Slots} {Mi Mo : ByteArray → Option Int} (h : DB w A most S Mi Mo) {y : Nat} (hy : fp A y) : y < w.heap.size := by
  rcases hy with hy | hy | hy | hy | hy | hy
  · rw [hy]; exact h.hd.lt
  · rw [hy]; exact h.row.lt
  · obtain ⟨L, t, _⟩ := h.tI; rw [hy]; exact t.ht.hd.lt
  · obtain ⟨L, t, _⟩ := h.tI
    rw [hy]
    by_cases hL : L = []
    · rw [t.nils hL]; exact t.ht.hd.lt
    · exact (t.ht.row hL).lt
  · obtain ⟨L, t, _⟩ := h.tO; rw [hy]; exact t.ht.hd.lt
  · obtain ⟨L, t, _⟩ := h.tO
    rw [hy]
    by_cases hL : L = []
    · rw [t.nils hL]; exact t.ht.hd.lt
    · exact (t.ht.row hL).lt

theorem RF.lt {w : World} {x : Nat} {s : SliceV} {most : Int} {L : List (Int × Bnd)} (h : RF w x s most L) {y : Nat} (hy : fpR x s y) : y < w.heap.size := by
  rcases hy with hy | hy
  · rw [hy]; exact h.hd.lt
  · exact h.buf.lt hy

/-- What is new, but for one place. -/
abbrev From (w0 : World) (z : Option Nat) (y : Nat) : Prop := w0.heap.size ≤ y ∧ some y ≠ z

/-- Both, side by side. -/
def Both (w0 w : World) (d x : Nat) (most : Nat) (z : Option Nat) : Prop := ∃ A S Mi Mo s, A.d = d ∧ DB w A most S Mi Mo ∧ RF w x s (most : Int) (live 0 S) ∧ (∀ y, fp A y → ¬ fpR x s y) ∧ (∀ y, fp A y → From w0 z y) ∧ (∀ y, fpR x s y → From w0 z y)

theorem Both.ext {w0 w w' : World} {d x most : Nat} {z : Option Nat} (h : Both w0 w d x most z) (hf : Ext w w') : Both w0 w' d x most z := by
  obtain ⟨A, S, Mi, Mo, s, h1, h2, h3, h4, h5, h6⟩ := h
  exact ⟨A, S, Mi, Mo, s, h1, h2.ext hf, h3.ext hf, h4, h5, h6⟩

theorem Both.off {w0 w : World} {d x most : Nat} (h : Both w0 w d x most none) {z : Nat} (hz : w.heap.size ≤ z) : Both w0 w d x most (some z) := by
  obtain ⟨A, S, Mi, Mo, s, h1, h2, h3, h4, h5, h6⟩ := h
  exact ⟨A, S, Mi, Mo, s, h1, h2, h3, h4, fun y hy => ⟨(h5 y hy).1, fun e => by have := h2.lt hy; simp at e; omega⟩, fun y hy => ⟨(h6 y hy).1, fun e => by have := h3.lt hy; simp at e; omega⟩⟩

theorem Both.any {w0 w : World} {d x most : Nat} {z : Option Nat} (h : Both w0 w d x most z) : Both w0 w d x most none := by
  obtain ⟨A, S, Mi, Mo, s, h1, h2, h3, h4, h5, h6⟩ := h
  exact ⟨A, S, Mi, Mo, s, h1, h2, h3, h4, fun y hy => ⟨(h5 y hy).1, by simp⟩, fun y hy => ⟨(h6 y hy).1, by simp⟩⟩

theorem both_add {w0 w : World} {d x most : Nat} {z : Option Nat} (h : Both w0 w d x most z) (hz : ∀ q, z = some q → q < w.heap.size) (b : Bnd) (hb : b.ok) :
    c_bind_DB_Add (some ⟨d, 0, none⟩) b.sw b.pr b.ad b.po b.opr b.oad b.opo b.st w fun n e w1 => Fr8 w w1 (From w0 z) ∧
      c_ref22_DB_Add (some ⟨x, 0, none⟩) b.sw b.pr b.ad b.po b.opr b.oad b.opo b.st w1 fun n' e' w2 => n' = n ∧ e' = e ∧ Both w0 w2 d x most z ∧ Fr8 w1 w2 (From w0 z) := by
  obtain ⟨A, S, Mi, Mo, s, rfl, hd, hr, h4, h5, h6⟩ := h
  refine cm_bind_DB_Add (dadd_ok hd b hb fun y hy => hd.lt hy) ?_
  rintro n e w1 ⟨he, f1, A', S', Mi', Mo', hd', hdd, hfp, hlt, hS⟩
  refine ⟨f1.mono fun y hy => h5 y hy, ?_⟩
  have hr1 := hr.fr f1 fun y hy hx => h4 y hx hy
  have hl := hd.len
  have hm := hd.mx
  have fi := Gp.Bind.find_i hd.good (q := b.i) hb.1 rfl
  have fo := Gp.Bind.find_o hd.good (q := b.o) hb.2 rfl
  have hai : (Mi (Bind.keyS b.i)).isSome = ((live 0 S).find? fun y => decide (y.2.i = b.i)).isSome := by rw [fi, Option.isSome_map]
  have hao : (Mo (Bind.keyS b.o)).isSome = ((live 0 S).find? fun y => decide (y.2.o = b.o)).isSome := by rw [fo, Option.isSome_map]
  have hfree : ∀ i, freeN S = some i → _ := fun i => Gp.Bind.freeN_some (S := S) (i := i) 0
  have hnone := Gp.Bind.freeN_none (S := S) 0
  have hll := Gp.Bind.live_len_le S 0
  have hi : ¬ ((most : Int) ≤ ((live 0 S).length : Int)) → (freeN S).getD 0 ≤ (live 0 S).length ∧ (∀ j, j < (freeN S).getD 0 → ∃ c, (live 0 S)[j]? = some ((j : Int), c)) ∧ ∀ v c, (live 0 S)[(freeN S).getD 0]? = some (v, c) → v ≠ (((freeN S).getD 0 : Nat) : Int) := by
    intro hnf
    cases hf : freeN S with
    | none => have := hnone hf; omega
    | some i =>
      obtain ⟨g1, g2, g3, g4, g5, g6, g7⟩ := hfree i hf
      refine ⟨g4, fun j hj => ?_, fun v c hv => ?_⟩
      · obtain ⟨c, hc, _⟩ := g5 j hj
        exact ⟨c, by rw [hc]; simp⟩
      · have := g6 v c hv
        simpa using this
  refine cm_ref22_DB_Add (radd_ok hr1 b ((freeN S).getD 0) (by omega) hi) ?_
  rintro n' e' w2 ⟨he', f2, s', hr2, hs'⟩
  have heq : raddR (live 0 S) most b ((freeN S).getD 0) = addS S Mi Mo b := by
    unfold raddR addS
    rw [hai, hao]
    split
    · rfl
    · cases hf : freeN S with
      | none =>
        have := hnone hf
        rw [if_pos (by omega)]
      | some i =>
        obtain ⟨g1, g2, g3, _⟩ := hfree i hf
        rw [if_neg (by omega)]; rfl
  rw [heq] at he' hr2
  rw [← he, Prod.mk.injEq] at he'
  refine ⟨he'.1, he'.2, ⟨A', S', Mi', Mo', s', hdd, hd'.fr f2 fun y hy e => ?_, ?_, ?_, ?_, ?_⟩, f2.mono fun y hy => by rw [hy]; exact h6 x (.inl rfl)⟩
  · have hxl := hr.hd.lt
    rcases hfp y hy with h8 | h8
    · exact h4 y h8 (.inl e)
    · omega
  · have hL : (if (addS S Mi Mo b).2 = 0 then (live 0 S).take ((freeN S).getD 0) ++ ((((freeN S).getD 0 : Nat) : Int), b) :: (live 0 S).drop ((freeN S).getD 0) else live 0 S) = live 0 S' := by
      rw [hS]
      by_cases h0 : (addS S Mi Mo b).2 = 0
      · rw [if_pos h0, if_pos h0]
        unfold addS at h0 ⊢
        split at h0
        · simp at h0
        · rename_i hc
          rw [if_neg hc]
          cases hf : freeN S with
          | none => rw [hf] at h0; simp at h0
          | some i =>
            obtain ⟨_, _, _, _, _, _, g7⟩ := hfree i hf
            simp only [Option.getD_some, Int.toNat_natCast]
            rw [g7 b]; simp
      · rw [if_neg h0, if_neg h0]
    rw [hL] at hr2
    exact hr2
  · rintro y hy (h9 | h9)
    · have hxl := hr.hd.lt
      rcases hfp y hy with h8 | h8
      · exact h4 y h8 (.inl h9)
      · omega
    · rcases hs' y h9 with h9 | h9
      · rcases hfp y hy with h8 | h8
        · exact h4 y h8 (.inr h9)
        · have := hr.buf.lt h9; omega
      · have := hlt y hy
        omega
  · intro y hy
    rcases hfp y hy with h8 | h8
    · exact h5 y h8
    · have h5d := (h5 A.d (.inl rfl)).1
      have hdl := hd.hd.lt
      exact ⟨by omega, fun e => by have := hz y e.symm; omega⟩
  · rintro y (h9 | h9)
    · rw [h9]; exact h6 x (.inl rfl)
    · rcases hs' y h9 with h9 | h9
      · exact h6 y (.inr h9)
      · have h5d := (h5 A.d (.inl rfl)).1
        have hdl := hd.hd.lt
        have hf1 := f1.size
        exact ⟨by omega, fun e => by have := hz y e.symm; omega⟩

theorem both_remove {w0 w : World} {d x most : Nat} {z : Option Nat} (h : Both w0 w d x most z) (hz : ∀ q, z = some q → q < w.heap.size) (id : Int) :
    c_bind_DB_Remove (some ⟨d, 0, none⟩) id w fun r w1 => Fr8 w w1 (From w0 z) ∧
      c_ref22_DB_Remove (some ⟨x, 0, none⟩) id w1 fun r' w2 => r' = r ∧ Both w0 w2 d x most z ∧ Fr8 w1 w2 (From w0 z) := by
  obtain ⟨A, S, Mi, Mo, s, rfl, hd, hr, h4, h5, h6⟩ := h
  refine cm_bind_DB_Remove (dremove_ok hd id fun y hy => hd.lt hy) ?_
  rintro _ w1 ⟨rfl, f1, Mi', Mo', hd'⟩
  refine ⟨f1.mono fun y hy => h5 y hy, ?_⟩
  have hr1 := hr.fr f1 fun y hy hx => h4 y hx hy
  refine cm_ref22_DB_Remove (rremove_ok hr1 id) ?_
  rintro _ w2 ⟨rfl, f2, s', hr2, hs'⟩
  have hfid := Gp.Bind.find_id (S := S) id
  have hsome : ((live 0 S).find? fun y => y.1 == id).isSome = (getS S id).isSome := by rw [← hfid, Option.isSome_map]
  have z1 := f1.size
  refine ⟨hsome, ⟨A, _, Mi', Mo', s', rfl, hd'.fr f2 fun y hy e => h4 y hy (.inl e), ?_, ?_, h5, ?_⟩, f2.mono fun y hy => by rw [hy]; exact h6 x (.inl rfl)⟩
  · have hL : ((live 0 S).filter fun y => y.1 != id) = live 0 (if (getS S id).isSome = true then S.set id.toNat none else S) := by
      cases hg : getS S id with
      | none =>
        simp only [Option.isSome_none, Bool.false_eq_true, if_false]
        rw [hg, Option.map_eq_none_iff] at hfid
        refine List.filter_eq_self.2 fun y hy => ?_
        have := List.find?_eq_none.1 hfid y hy
        simpa using this
      | some b =>
        simp only [Option.isSome_some, if_true]
        obtain ⟨g0, _⟩ := Gp.Bind.getS_some.1 hg
        rw [Gp.Bind.live_remove]
        congr 1
        funext y
        rw [show ((0 + id.toNat : Nat) : Int) = id by omega]
    rw [hL] at hr2
    exact hr2
  · rintro y hy (h9 | h9)
    · exact h4 y hy (.inl h9)
    · have := hs' y h9
      have := hd.lt hy
      omega
  · rintro y (h9 | h9)
    · rw [h9]; exact h6 x (.inl rfl)
    · have hs9 := hs' y h9
      have h5d := (h5 A.d (.inl rfl)).1
      have hdl := hd.hd.lt
      exact ⟨by omega, fun e => by have := hz y e.symm; omega⟩

theorem BndR.eq {b : Bnd} {a1 a2 a3 a4 a5 a6 a7 : Int} {a8 : Bool} (h : BndR b a1 a2 a3 a4 a5 a6 a7 a8) : a1 = b.sw ∧ a2 = b.pr ∧ a3 = b.ad ∧ a4 = b.po ∧ a5 = b.opr ∧ a6 = b.oad ∧ a7 = b.opo ∧ a8 = b.st := h

theorem lives22_ok {w : World} {s : SliceV} (most : Int) (hs : DoIn w s) : c_law22_BindLives most s w fun r w' => r = true ∧ Ext w w' := by
  apply ok_law22_BindLives
  unfold s_law22_BindLives
  refine cm_law22_awake (awake22_ok w) ?_
  rintro _ w1 ⟨rfl, f1⟩
  simp -zeta only [Bool.not_true, cond_false]
  refine cm_bind_New (dnew_ok most w1) ?_
  rintro p e w2 ⟨f2, hp⟩
  refine cm_ref22_New (rnewb_ok most w2) ?_
  rintro q e' w3 ⟨f3, hq⟩
  have x3 : Ext w w3 := (f1.trans f2).trans f3
  have fin : ∀ W, Ext w W → c_law22_awake W fun r w' => r = true ∧ Ext w w' := by
    intro W hW
    refine cm_law22_awake (awake22_ok W) ?_
    rintro _ w9 ⟨rfl, f9⟩
    exact ⟨rfl, hW.trans f9⟩
  have hsl := hs.1
  intro J11
  rcases hp with ⟨hbad, rfl, rfl⟩ | ⟨hp1, hp2, rfl, A, rfl, hfp, hd⟩
  · rcases hq with ⟨_, rfl, rfl⟩ | ⟨hq1, hq2, _⟩
    · simp only [J11, show ((1 : Int) != 1) = false from rfl, Option.isNone_none, cond_false, show ((true : Bool) == true) = true from rfl, Bool.not_true, cond_true]
      refine LoopP_inv (fun st W => st.1 = 0 ∧ Ext w W) (fun st _ => 0) ⟨rfl, x3⟩ ?_
      rintro ⟨k, ⟨⟩⟩ W ⟨rfl, hx⟩ next hnext
      by_cases hlt : (0 : Int) < (s.len : Int)
      · obtain ⟨op, id, b, a, hb, ha, hc⟩ := (hs.ext hx).2 0 (by omega)
        have k0 := hc 0 _ rfl
        have k1 := hc 1 _ rfl
        have k2 := hc 2 _ rfl
        have k3 := hc 3 _ rfl
        have k4 := hc 4 _ rfl
        have k5 := hc 5 _ rfl
        have k6 := hc 6 _ rfl
        have k7 := hc 7 _ rfl
        have k8 := hc 8 _ rfl
        have k9 := hc 9 _ rfl
        simp only [Nat.zero_mul, Nat.zero_add] at k0 k1 k2 k3 k4 k5 k6 k7 k8 k9
        simp only [hlt, decide_true, cond_true, ex_some, Ld_eq, LdV_some, dec_int, dec_bool, Nat.zero_add, Nat.add_zero, AtIx, ha, Int.toNat_zero, Nat.zero_mul, addr_add2, k0, k1, k2, k3, k4, k5, k6, k7, k8, k9]
        refine ⟨by first | trivial | omega, by first | trivial | omega, Al_f rfl rfl fun z w4 r4 e4 z4 f4 => ?_⟩
        simp only [show decide ((0 : Int) ≥ 60) = false from rfl, cond_false]
        exact fin w4 (hx.trans f4)
      · simp only [hlt, decide_false, cond_false]
        exact fin W hx
    · exact absurd ⟨hq1, hq2⟩ hbad
  · rcases hq with ⟨hbad, _, _⟩ | ⟨hq1, hq2, rfl, x, rfl, hxl, hxl2, hr⟩
    · exact absurd ⟨hp1, hp2⟩ hbad
    · simp -zeta only [show ((0 : Int) != 0) = false from rfl, Option.isNone_some, cond_false, show ((false : Bool) == false) = true from rfl, Bool.not_true]
      show J11 false
      simp -zeta only [J11, cond_false]
      intro J13
      have h13 : ∀ W, Ext w W → J13 W := fun W hW => fin W hW
      have hboth : Both w w3 A.d x most.toNat none := by
        have z1 := f1.size
        have z2 := f2.size
        have hlr : live 0 (List.replicate most.toNat (none : Option Bnd)) = [] := by
          have : ∀ (k j : Nat), live j (List.replicate k (none : Option Bnd)) = [] := by
            intro k
            induction k with
            | zero => intro j; rfl
            | succ k ih => intro j; rw [List.replicate_succ, Gp.Bind.live]; exact ih _
          exact this _ _
        refine ⟨A, _, _, _, ⟨none, 0, 0⟩, rfl, hd.ext f3, ?_, ?_, ?_, ?_⟩
        · rw [hlr, show ((most.toNat : Nat) : Int) = most by omega]; exact hr
        · rintro y hy (h9 | ⟨o, h9⟩)
          · have := (hfp y hy).2; omega
          · cases h9
        · intro y hy; have := (hfp y hy).1; exact ⟨by omega, by simp⟩
        · rintro y (h9 | ⟨o, h9⟩)
          · exact ⟨by omega, by simp⟩
          · cases h9
      refine LoopP_inv (fun st W => ∃ i : Nat, i ≤ s.len ∧ st.1 = (i : Int) ∧ Ext w W ∧ Both w W A.d x most.toNat none) (fun st _ => s.len - st.1.toNat) ⟨0, by omega, rfl, x3, hboth⟩ ?_
      rintro ⟨k, ⟨⟩⟩ W ⟨i, hi, rfl, hx, hbo⟩ next hnext
      by_cases hlt : i < s.len
      · have hlt' : ((i : Int) < (s.len : Int)) := by omega
        obtain ⟨op, id, b, a, hb, ha, hc⟩ := (hs.ext hx).2 i hlt
        have k0 := hc 0 _ rfl
        have k1 := hc 1 _ rfl
        have k2 := hc 2 _ rfl
        have k3 := hc 3 _ rfl
        have k4 := hc 4 _ rfl
        have k5 := hc 5 _ rfl
        have k6 := hc 6 _ rfl
        have k7 := hc 7 _ rfl
        have k8 := hc 8 _ rfl
        have k9 := hc 9 _ rfl
        simp only [Nat.add_zero] at k0
        simp -zeta only [hlt', decide_true, Option.isNone_some, cond_true, ex_some, Ld_eq, LdV_some, dec_int, dec_bool, Nat.add_zero, AtIx, ha, Int.toNat_natCast, addr_add2, k0, k1, k2, k3, k4, k5, k6, k7, k8, k9]
        refine ⟨by first | trivial | omega, by first | trivial | omega, Al_f rfl rfl fun z w4 r4 e4 z4 f4 => ?_⟩
        have x4 := hx.trans f4
        have hzw : w.heap.size ≤ z := by have := hx.size; omega
        have bo4 := (hbo.off (z := z) (by omega)).ext f4
        intro J34
        by_cases h60 : (i : Int) ≥ 60
        · simp only [h60, decide_true, cond_true, J34]
          exact h13 w4 x4
        simp -zeta only [h60, decide_false, cond_false]
        show J34 false
        simp -zeta only [J34, cond_false]
        intro J36
        -- the comparing
        have h36 : ∀ W5, Row W5 z [.int .i64 op, .int .i64 id, .int .i64 b.sw, .int .i64 b.pr, .int .i64 b.ad, .int .i64 b.po, .int .i64 b.opr, .int .i64 b.oad, .int .i64 b.opo, .bool b.st] → Ext w W5 → Both w W5 A.d x most.toNat none → J36 W5 := by
          intro W5 r5 x5 bo5
          obtain ⟨A', S, Mi, Mo, t, hA, hdb, hrf, h4, h5, h6⟩ := bo5
          have fi := Gp.Bind.find_i hdb.good (q := b.i) hb.1 rfl
          have fo := Gp.Bind.find_o hdb.good (q := b.o) hb.2 rfl
          have hfid := Gp.Bind.find_id (S := S) id
          have hsome : ((live 0 S).find? fun y => y.1 == id).isSome = (getS S id).isSome := by rw [← hfid, Option.isSome_map]
          simp only [J36, cond_true, List.getElem?_cons_zero, List.getElem?_cons_succ, LdV_some, dec_int, add_mk, Nat.zero_add, r5.cell]
          rw [← hA]
          refine cm_bind_DB_Get (dget_ok hdb id) ?_
          rintro _ _ _ _ _ _ _ _ _ w6 ⟨rfl, ⟨rfl, rfl, rfl, rfl, rfl, rfl, rfl, rfl⟩, f6⟩
          refine Al_f rfl rfl fun g7 w7 r7 e7 z7 f7 => ?_
          have y7 := f6.trans f7
          simp only [List.getElem?_cons_zero, List.getElem?_cons_succ, LdV_some, dec_int, add_mk, Nat.zero_add, Nat.add_zero, (r5.ext y7).cell]
          refine cm_ref22_DB_Get (rgetb_ok (hrf.ext y7) id) ?_
          rw [hfid]
          rintro _ _ _ _ _ _ _ _ _ w8 ⟨rfl, ⟨rfl, rfl, rfl, rfl, rfl, rfl, rfl, rfl⟩, f8⟩
          refine Al_f rfl rfl fun g9 w9 r9 e9 z9 f9 => ?_
          have y9 := y7.trans (f8.trans f9)
          simp only [List.getElem?_cons_zero, List.getElem?_cons_succ, LdV_some, dec_int, add_mk, Nat.zero_add, Nat.add_zero, (r5.ext y9).cell]
          refine cm_bind_DB_Find (dfind_ok (hdb.ext y9) _ _ _ _ hb.1) ?_
          rintro n10 t10 w10 ⟨ht10, hn10, f10⟩
          have y10 := y9.trans f10
          simp only [List.getElem?_cons_zero, List.getElem?_cons_succ, LdV_some, dec_int, (r5.ext y10).cell]
          refine cm_ref22_DB_Find (rfind_ok (hrf.ext y10) _ _ _ _) ?_
          rintro n11 t11 w11 ⟨ht11, hn11, f11⟩
          have y11 := y10.trans f11
          simp only [List.getElem?_cons_zero, List.getElem?_cons_succ, LdV_some, dec_int, (r5.ext y11).cell]
          refine cm_bind_DB_Back (dback_ok (hdb.ext y11) _ _ _ hb.2) ?_
          rintro n12 t12 w12 ⟨ht12, hn12, f12⟩
          have y12 := y11.trans f12
          simp only [List.getElem?_cons_zero, List.getElem?_cons_succ, LdV_some, dec_int, (r5.ext y12).cell]
          refine cm_ref22_DB_Back (rback_ok (hrf.ext y12) _ _ _) ?_
          rintro n13 t13 w13 ⟨ht13, hn13, f13⟩
          have y13 := y12.trans f13
          have q1 : n10 = n11 := by rw [hn10, hn11]; exact congrArg (fun o => Option.getD o 0) fi
          have q2 : t10 = t11 := by
            rw [ht10, ht11]
            have := congrArg Option.isSome fi
            rwa [Option.isSome_map] at this
          have q3 : n12 = n13 := by rw [hn12, hn13]; exact congrArg (fun o => Option.getD o 0) fo
          have q4 : t12 = t13 := by
            rw [ht12, ht13]
            have := congrArg Option.isSome fo
            rwa [Option.isSome_map] at this
          subst q1 q2 q3 q4
          have r7' := r7.ext ((f8.trans f9).trans ((f10.trans f11).trans (f12.trans f13)))
          have r9' := r9.ext ((f10.trans f11).trans (f12.trans f13))
          simp only [cond_false, List.getElem?_cons_zero, List.getElem?_cons_succ, LdV_some, dec_int, dec_bool, r7'.cell, r9'.cell, beq_self_eq_true, Bool.and_true, Bool.not_true, bne_self_eq_false, hsome]
          refine cm_law22_same (same22_ok (hdb.ext y13) (hrf.ext y13)) ?_
          rintro _ w14 ⟨rfl, f14⟩
          simp only [Bool.not_true, cond_false]
          rw [wrap_i64 (by omega) (by omega)]
          have y14 := y13.trans f14
          exact hnext _ _ ⟨i + 1, by omega, by simp, x5.trans y14, ⟨A', S, Mi, Mo, t, hA, hdb.ext y14, hrf.ext y14, h4, h5, h6⟩⟩ (by simp only; omega)
        have hz4 : ∀ q, some z = some q → q < w4.heap.size := fun q e => by simp at e; omega
        have nz : ¬ From w (some z) z := fun e => e.2 rfl
        simp -zeta only [List.getElem?_cons_zero, List.getElem?_cons_succ, LdV_some, dec_int, dec_bool, add_mk, Nat.zero_add, r4.cell]
        by_cases hop : op < 3
        · simp -zeta only [hop, decide_true, cond_true]
          refine cm_bind_DB_Add (both_add bo4 hz4 b hb) ?_
          rintro n e w5 ⟨f5, href⟩
          have r5 := r4.fr f5 nz
          simp only [cond_true, List.getElem?_cons_zero, List.getElem?_cons_succ, LdV_some, dec_int, dec_bool, r5.cell]
          refine cm_ref22_DB_Add href ?_
          rintro n' e' w6 ⟨rfl, rfl, bo6, f6⟩
          simp only [bne_self_eq_false, cond_false]
          exact h36 w6 (r5.fr f6 nz) ((x4.new f5 fun y hy h => by have := h.1; omega).new f6 fun y hy h => by have := h.1; omega) bo6.any
        · simp -zeta only [hop, decide_false, cond_false, r4.drew.cell, cond_false, List.getElem?_cons_zero, List.getElem?_cons_succ, LdV_some, dec_int]
          have bo4d := bo4.ext (Ext.drew _)
          refine cm_bind_DB_Remove (both_remove bo4d hz4 id) ?_
          rintro r w5 ⟨f5, href⟩
          have r5 := r4.drew.fr f5 nz
          simp only [true_and, List.getElem?_cons_zero, List.getElem?_cons_succ, r5.cell]
          refine cm_ref22_DB_Remove href ?_
          rintro r' w6 ⟨rfl, bo6, f6⟩
          simp only [beq_self_eq_true, Bool.not_true, cond_false]
          exact h36 w6 (r5.fr f6 nz) (((x4.trans (Ext.drew _)).new f5 fun y hy h => by have := h.1; omega).new f6 fun y hy h => by have := h.1; omega) bo6.any
      · have hlt' : ¬ ((i : Int) < (s.len : Int)) := by omega
        simp only [hlt', decide_false, cond_false]
        exact h13 W hx
end Go.Proofs
