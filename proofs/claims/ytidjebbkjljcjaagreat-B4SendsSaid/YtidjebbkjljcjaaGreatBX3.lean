import Derived.Test.YtidjebbkjljcjaaGreatBX2
/- The element: how it is made, and what it sends. -/
namespace Go.Proofs
open Gp Gp.V4
set_option maxRecDepth 100000
set_option maxHeartbeats 1000000

theorem callV_fn {f : FuncId} {cap : Array Value} {sh : List Shape} {args : List Value} {w : World} {K : Value → World → Prop} (hb : hasBody Tryz.prog f = true) (h : CallP Tryz.prog sh f (args ++ cap.toList) w K) :
    CallV Tryz.prog sh (.func (.func f) #[] cap) args w K := by
  unfold CallV
  simp only [hb, cond_true]
  exact h

def ownB : List UInt8 := [32, 2, 0, 0, 0, 0, 0, 0, 0, 0, 0, 0, 0, 0, 0, 0]
def aftrB : List UInt8 := [32, 1, 0, 0, 0, 0, 0, 0, 0, 0, 0, 0, 0, 0, 0, 0]

/-- The element in memory. -/
structure BW (w : World) (x ct l : Nat) (mtu : Int) (tb : Addr) (id : Int) (cs : List Int) : Prop where
  hd : Row w x (.int .u8 32 :: .int .u8 2 :: .int .u8 0 :: .int .u8 0 :: .int .u8 0 :: .int .u8 0 :: .int .u8 0 :: .int .u8 0 :: .int .u8 0 :: .int .u8 0 :: .int .u8 0 :: .int .u8 0 :: .int .u8 0 :: .int .u8 0 :: .int .u8 0 :: .int .u8 0 :: .int .u8 32 :: .int .u8 1 :: .int .u8 0 :: .int .u8 0 :: .int .u8 0 :: .int .u8 0 :: .int .u8 0 :: .int .u8 0 :: .int .u8 0 :: .int .u8 0 :: .int .u8 0 :: .int .u8 0 :: .int .u8 0 :: .int .u8 0 :: .int .u8 0 :: .int .u8 0 :: .int .i64 mtu :: .int .i64 64 :: .int .i64 4 :: .int .i64 10000 :: .int .i64 60 :: .pointer (some tb) :: .pointer (some ⟨ct, 0, none⟩) :: .int .i64 0 :: .int .i64 id :: [])
  cr : Row w ct [.slice (some ⟨l, 0, none⟩) 14 14]
  ls : Row w l (cs.map fun n => Value.int .i64 n)
  len : cs.length = 14
  ne : x ≠ ct ∧ x ≠ l ∧ ct ≠ l

section
variable {w w' : World} {x ct l : Nat} {mtu : Int} {tb : Addr} {id : Int} {cs : List Int}
theorem BW.fr {S : Nat → Prop} (h : BW w x ct l mtu tb id cs) (hf : Fr8 w w' S) (h1 : ¬ S x) (h2 : ¬ S ct) (h3 : ¬ S l) : BW w' x ct l mtu tb id cs := ⟨h.hd.fr hf h1, h.cr.fr hf h2, h.ls.fr hf h3, h.len, h.ne⟩
theorem BW.ext (h : BW w x ct l mtu tb id cs) (hf : Ext w w') : BW w' x ct l mtu tb id cs := h.fr (hf fun _ => False) (by simp) (by simp) (by simp)

theorem ready_ok (h : BW w x ct l mtu tb id cs) : c_b4_B4_ready (some ⟨x, 0, none⟩) w fun r w' => r = true ∧ w' = w := by
  apply ok_b4_B4_ready
  unfold s_b4_B4_ready
  simp only [Option.isNone_some, cond_true, ex_some, Ld_eq, List.getElem?_cons_zero, List.getElem?_cons_succ, LdV_some, dec_ptr, add_mk, Nat.zero_add, h.hd.cell, Bool.not_false]
  exact ⟨by trivial, by trivial⟩

theorem drop_ok (h : BW w x ct l mtu tb id cs) {r : Nat} (h0 : 0 < r) (h14 : r < 14) : c_b4_B4_drop (some ⟨x, 0, none⟩) (r : Int) w fun e w' => e = (r : Int) ∧ Fr8 w w' (· = l) ∧ ∃ cs', BW w' x ct l mtu tb id cs' := by
  apply ok_b4_B4_drop
  unfold s_b4_B4_drop
  simp only [ex_some, Ld_eq, List.getElem?_cons_zero, List.getElem?_cons_succ, LdV_some, dec_ptr, add_mk, Nat.zero_add, h.hd.cell]
  apply ok_counts_Counts_Add
  unfold s_counts_Counts_Add
  intro J3
  have hJ : J3 false w := by
    simp only [J3, cond_false, cond_false, ex_some, Ld_eq, List.getElem?_cons_zero, LdV_some, dec_slice, AtIx_some, add_mk, Nat.zero_add, h.cr.cell]
    have hc : (cs.map fun n => Value.int .i64 n)[r]? = some (.int .i64 (cs[r]'(by rw [h.len]; exact h14))) := by
      rw [List.getElem?_map, List.getElem?_eq_getElem (by rw [h.len]; exact h14)]; rfl
    refine ⟨by omega, by omega, ?_⟩
    simp only [LdV_some, dec_int, Int.toNat_natCast, Nat.mul_one, h.ls.cell, hc]
    refine ⟨by omega, by omega, ?_⟩
    refine St_row h.ls rfl (by rw [List.length_map, h.len]; omega) fun w1 r1 f1 z1 => ?_
    have f1l := f1 (· = l) rfl
    refine ⟨by trivial, f1l, cs.set r (IntKind.i64.wrap (cs[r]'(by rw [h.len]; exact h14) + 1)), h.hd.fr f1l h.ne.2.1, h.cr.fr f1l h.ne.2.2, ?_, by rw [List.length_set]; exact h.len, h.ne⟩
    rw [← List.map_set] at r1
    exact r1
  clear_value J3
  apply ok_counts_Counts_has
  unfold s_counts_Counts_has
  simp only [Option.isNone_some, cond_false, cond_true, ex_some, Ld_eq, List.getElem?_cons_zero, LdV_some, dec_slice, Bool.not_false, decide_eq_true (show (r : Int) ≥ 0 by omega), h.cr.cell, decide_eq_true (show (r : Int) < ((14 : Nat) : Int) by omega), Bool.not_true]
  rw [show ((r : Int) == 0) = false by rw [beq_eq_false_iff_ne]; omega]
  exact hJ
end

theorem hop_ok {w : World} (p : Pkt) {o d : SliceV} (ho : SlB w o p.opts) (hd : SlB w d p.data) (h1 : p.opts.length ≤ 2 ^ 40) (h2 : p.data.length ≤ 2 ^ 40) (ht : 0 ≤ p.ttl ∧ p.ttl ≤ 255) :
    c_wrap_Hop p.tos p.id p.off p.ttl p.proto p.src p.dst p.df p.mf o d w fun t i o' l' p' s d' df mf op da ok w' => ok = decide (1 < p.ttl) ∧ (1 < p.ttl → PktR w' { p with ttl := p.ttl - 1 } t i o' l' p' s d' df mf op da) ∧ Ext w w' := by
  apply ok_wrap_Hop
  unfold s_wrap_Hop
  refine Al_e fun a w1 r1 e1 z1 f1 => Al_e fun b w2 r2 e2 z2 f2 => ?_
  have r1' := r1.ext f2
  have s1 := f1.size
  have s2 := f2.size
  have x2 := f1.trans f2
  simp only [Ld_eq, List.getElem?_cons_zero, List.getElem?_cons_succ, LdV_some, dec_int, add_mk, Nat.zero_add, Nat.add_zero, r1'.cell]
  by_cases hb : p.ttl ≤ 1
  · rw [decide_eq_true hb, cond_true]
    refine StN_full r2 rfl rfl fun w3 r3 f3 z3 => ?_
    simp only [List.getElem?_cons_zero, List.getElem?_cons_succ, LdV_some, dec_slice, dec_int, dec_bool, r3.cell]
    exact ⟨by rw [decide_eq_false (by omega)], fun h => by omega, x2.new (f3 (· = b) rfl) fun y hy e => by omega⟩
  rw [decide_eq_false hb, cond_false]
  refine St_row r1' rfl (by simp) fun w3 r3 f3 z3 => ?_
  simp only [List.set_cons_zero, List.set_cons_succ] at r3
  have f3a := f3 (· = a) rfl
  have x3 : Ext w w3 := x2.new f3a fun y hy e => by omega
  have x3d := x3.trans (Ext.drew w3)
  have r3d := r3.drew
  have zd : w3.drew.heap.size = w3.heap.size := rfl
  simp only [List.getElem?_cons_zero, List.getElem?_cons_succ, LdV_some, dec_slice, r3d.cell]
  refine cm_slices_Clone_byte_byte (clone_ok (ho.ext x3d) (by omega)) ?_
  rintro so w4 ⟨b4, _, f4, n4⟩
  have s4 := f4.size
  have r4 := r3d.ext f4
  simp only [true_and, List.getElem?_cons_zero, List.getElem?_cons_succ, r4.cell]
  refine cm_slices_Clone_byte_byte (clone_ok ((hd.ext x3d).ext f4) (by omega)) ?_
  rintro sd w5 ⟨b5, _, f5, n5⟩
  have s5 := f5.size
  refine St_row (r4.ext f5) rfl (by simp) fun w6 r6 f6 z6 => ?_
  simp only [List.set_cons_zero, List.set_cons_succ] at r6
  have f6a := f6 (· = a) rfl
  refine St_row r6 rfl (by simp) fun w7 r7 f7 z7 => ?_
  simp only [List.set_cons_zero, List.set_cons_succ] at r7
  have f7a := f7 (· = a) rfl
  simp only [List.getElem?_cons_zero, List.getElem?_cons_succ, LdV_some, dec_slice, dec_int, dec_bool, r7.cell]
  have r2b := (((((r2.fr f3a (by omega)).drew.ext f4).ext f5).fr f6a (by omega)).fr f7a (by omega))
  refine StN_full r2b rfl rfl fun w8 r8 f8 z8 => ?_
  have f8b := f8 (· = b) rfl
  simp only [List.getElem?_cons_zero, List.getElem?_cons_succ, LdV_some, dec_slice, dec_int, dec_bool, r8.cell]
  refine ⟨by rw [decide_eq_true (by omega)], fun _ => ⟨rfl, rfl, rfl, by rw [wrap_i64 (by omega) (by omega)], rfl, rfl, rfl, rfl, rfl, ?_, ?_⟩, ?_⟩
  · exact SlB.of_buf ((((b4.ext f5).fr f6a fun c hc e => by have := n4 c hc; omega).fr f7a fun c hc e => by have := n4 c hc; omega).fr f8b fun c hc e => by have := n4 c hc; omega)
  · exact SlB.of_buf (((b5.fr f6a fun c hc e => by have := n5 c hc; omega).fr f7a fun c hc e => by have := n5 c hc; omega).fr f8b fun c hc e => by have := n5 c hc; omega)
  · exact (((((x3d.trans f4).trans f5).new f6a fun y hy e => by omega).new f7a fun y hy e => by omega).new f8b fun y hy e => by omega)

theorem within1 {n a b : Int} (h : a ≤ n ∧ n ≤ b) {w : World} {K : Value → World → Prop} (hK : K (.bool true) w) : CallV Tryz.prog [.one .bool] (Value.func (.func 33) #[] #[]) [(Value.int .i64 n), (Value.int .i64 a), (Value.int .i64 b)] w K := by
  refine callV_fn (by kernel_rfl) ?_
  refine ok_join_New_1 (a0 := n) (a1 := a) (a2 := b) (K := fun r w' => K (Value.bool r) w') ?_
  unfold s_join_New_1
  simp only [decide_eq_true (show n ≥ a from h.1), decide_eq_true h.2, cond_true]
  exact hK

theorem jnew_ok (w : World) : c_join_New 4 10000 60 w fun p e w' => e = 0 ∧ (∃ t : Nat, p = some ⟨t, 0, none⟩) ∧ Ext w w' := by
  apply ok_join_New
  unfold s_join_New
  intro J4
  have hJ : J4 false w := by
    simp only [J4, cond_false, Al]
    exact ⟨by trivial, ⟨_, rfl⟩, fun S => (Fr8.alloc w _ S).trans (Fr8.alloc _ _ S) fun _ _ e => e⟩
  clear_value J4
  refine within1 (by omega) ⟨true, rfl, ?_⟩
  rw [Bool.not_true, cond_false]
  refine within1 (by omega) ⟨true, rfl, ?_⟩
  rw [Bool.not_true, cond_false]
  refine within1 (by omega) ⟨true, rfl, ?_⟩
  rw [Bool.not_true]
  exact hJ

theorem cnew_ok (w : World) : c_counts_New w fun p w' => (∃ ct l : Nat, p = some ⟨ct, 0, none⟩ ∧ Row w' ct [.slice (some ⟨l, 0, none⟩) 14 14] ∧ Row w' l ((List.replicate 14 (0 : Int)).map fun n => Value.int .i64 n) ∧ w.heap.size ≤ l ∧ l < ct ∧ ct < w'.heap.size) ∧ Ext w w' := by
  apply ok_counts_New
  unfold s_counts_New
  refine MkSl_row (by omega) (by omega) (by omega) (by omega) fun l w1 r1 e1 z1 f1 => ?_
  refine Al_e fun ct w2 r2 e2 z2 f2 => ?_
  have f1 : Ext w w1 := f1
  refine ⟨⟨ct, l, rfl, r2, ?_, by omega, by omega, by omega⟩, f1.trans f2⟩
  have := r1.ext f2
  exact this

theorem sixh_ok (a0 a1 a2 a3 a4 a5 a6 a7 a8 a9 a10 a11 a12 a13 a14 a15 : Int) (h : a0 = 32) (w : World) : c_six_Host a0 a1 a2 a3 a4 a5 a6 a7 a8 a9 a10 a11 a12 a13 a14 a15 w fun r w' => r = true ∧ Ext w w' := by
  subst h
  apply ok_six_Host
  unfold s_six_Host
  refine Al_e fun a w1 r1 e1 z1 f1 => Al_e fun b w2 r2 e2 z2 f2 => ?_
  have r1' := r1.ext f2
  simp only [Ld_eq, List.getElem?_cons_zero, List.getElem?_cons_succ, LdV_some, dec_int, add_mk, Nat.zero_add, Nat.add_zero, r1'.cell, r2.cell]
  rw [show ((32 : Int) == 0) = false from rfl, Bool.false_and, Bool.not_false, cond_true]
  refine ⟨by omega, by omega, ?_⟩
  simp only [List.getElem?_cons_zero, LdV_some, dec_int, show Int.toNat 0 * 1 = 0 from rfl]
  exact ⟨by trivial, f1.trans f2⟩

theorem win_ok {n a b : Int} (h : a ≤ n ∧ n ≤ b) (w : World) : c_b4_within n a b w fun r w' => r = true ∧ w' = w := by
  apply ok_b4_within
  unfold s_b4_within
  simp only [decide_eq_true h.1, decide_eq_true h.2, cond_true]
  exact ⟨by trivial, by trivial⟩

theorem may_ok {m : Int} (hm : 1280 ≤ m ∧ m ≤ 65535) (w : World) : c_b4_Setup_may 32 2 0 0 0 0 0 0 0 0 0 0 0 0 0 0 32 1 0 0 0 0 0 0 0 0 0 0 0 0 0 0 m 64 4 10000 60 w fun r w' => r = true ∧ Ext w w' := by
  apply ok_b4_Setup_may
  unfold s_b4_Setup_may
  refine Al_e fun a w1 r1 e1 z1 f1 => ?_
  intro J4
  have hJ : ∀ W, Ext w1 W → J4 true W := by
    intro W hx
    have rW := r1.ext hx
    simp -zeta only [J4]
    simp only [cond_false, cond_true, Ld_eq, List.getElem?_cons_zero, List.getElem?_cons_succ, LdV_some, dec_int, add_mk, Nat.zero_add, rW.cell]
    refine cm_b4_within (win_ok (by omega) W) ?_
    rintro _ W1 ⟨rfl, hw⟩
    subst hw
    simp only [cond_true, List.getElem?_cons_zero, List.getElem?_cons_succ, LdV_some, dec_int, rW.cell]
    refine cm_b4_within (win_ok (by omega) _) ?_
    rintro _ W2 ⟨rfl, hw⟩
    subst hw
    simp only [cond_true, List.getElem?_cons_zero, List.getElem?_cons_succ, LdV_some, dec_int, rW.cell]
    refine cm_b4_within (win_ok (by omega) _) ?_
    rintro _ W3 ⟨rfl, hw⟩
    subst hw
    simp only [cond_true, List.getElem?_cons_zero, List.getElem?_cons_succ, LdV_some, dec_int, rW.cell]
    refine cm_b4_within (win_ok (by omega) _) ?_
    rintro _ W4 ⟨rfl, hw⟩
    subst hw
    simp only [cond_true, List.getElem?_cons_zero, List.getElem?_cons_succ, LdV_some, dec_int, rW.cell]
    refine cm_b4_within (win_ok (by omega) _) ?_
    rintro _ W5 ⟨rfl, hw⟩
    subst hw
    exact ⟨rfl, f1.trans hx⟩
  clear_value J4
  simp -zeta only [Ld_eq, List.getElem?_cons_zero, List.getElem?_cons_succ, LdV_some, dec_int, add_mk, Nat.zero_add, Nat.add_zero, r1.cell]
  refine cm_six_Host (sixh_ok _ _ _ _ _ _ _ _ _ _ _ _ _ _ _ _ rfl w1) ?_
  rintro _ w2 ⟨rfl, f2⟩
  have r2 := r1.ext f2
  simp -zeta only [cond_true, List.getElem?_cons_zero, List.getElem?_cons_succ, LdV_some, dec_int, r2.cell]
  refine cm_six_Host (sixh_ok _ _ _ _ _ _ _ _ _ _ _ _ _ _ _ _ rfl w2) ?_
  rintro _ w3 ⟨rfl, f3⟩
  have r3 := r2.ext f3
  simp -zeta only [cond_true, List.getElem?_cons_zero, List.getElem?_cons_succ, LdV_some, dec_int, r3.cell]
  exact hJ w3 (f2.trans f3)

theorem set32_ok {w : World} {K : Int → Int → Int → Int → Int → Int → Int → Int → Int → Int → Int → Int → Int → Int → Int → Int → Int → Int → Int → Int → Int → Int → Int → Int → Int → Int → Int → Int → Int → Int → Int → Int → Int → Int → Int → Int → Int → World → Prop} (h : ∀ w', Ext w w' → K 32 2 0 0 0 0 0 0 0 0 0 0 0 0 0 0 32 1 0 0 0 0 0 0 0 0 0 0 0 0 0 0 1280 64 4 10000 60 w') : c_law32_set w K := by
  apply ok_law32_set
  unfold s_law32_set
  refine Al_e fun a w1 r1 e1 z1 f1 => ?_
  refine StN_full r1 rfl rfl fun w2 r2 f2 z2 => ?_
  simp only [Ld_eq, List.getElem?_cons_zero, List.getElem?_cons_succ, LdV_some, dec_int, add_mk, Nat.zero_add, Nat.add_zero, r2.cell]
  exact h w2 (f1.new (f2 (· = a) rfl) fun y hy e => by omega)

theorem new_ok {m : Int} (hm : 1280 ≤ m ∧ m ≤ 65535) (w : World) : c_b4_New 32 2 0 0 0 0 0 0 0 0 0 0 0 0 0 0 32 1 0 0 0 0 0 0 0 0 0 0 0 0 0 0 m 64 4 10000 60 w fun p e w' => e = 0 ∧ (∃ x ct l tb, p = some ⟨x, 0, none⟩ ∧ BW w' x ct l m tb 1 (List.replicate 14 0) ∧ w.heap.size ≤ x ∧ w.heap.size ≤ ct ∧ w.heap.size ≤ l) ∧ Ext w w' := by
  apply ok_b4_New
  unfold s_b4_New
  refine Al_e fun a w1 r1 e1 z1 f1 => ?_
  simp only [Ld_eq, List.getElem?_cons_zero, List.getElem?_cons_succ, LdV_some, dec_int, add_mk, Nat.zero_add, Nat.add_zero, r1.cell]
  refine cm_b4_Setup_may (may_ok hm w1) ?_
  rintro _ w2 ⟨rfl, f2⟩
  have r2 := r1.ext f2
  rw [Bool.not_true, cond_false]
  simp only [List.getElem?_cons_zero, List.getElem?_cons_succ, LdV_some, dec_int, r2.cell]
  refine cm_join_New (jnew_ok w2) ?_
  rintro p e w3 ⟨rfl, ⟨t, rfl⟩, f3⟩
  have r3 := (r2.ext f3).drew
  rw [show ((0 : Int) != 0) = false from rfl, cond_false]
  simp only [List.getElem?_cons_zero, List.getElem?_cons_succ, LdV_some, dec_int, r3.cell]
  refine cm_counts_New (cnew_ok w3.drew) ?_
  rintro p w4 ⟨⟨ct, l, rfl, rc, rl, h1, h2, h3⟩, f4⟩
  have r4 := r3.ext f4
  simp only [true_and, List.getElem?_cons_zero, List.getElem?_cons_succ, r4.cell]
  refine Al_e fun x w5 r5 e5 z5 f5 => ?_
  have s1 := f1.size
  have s2 := f2.size
  have s3 := f3.size
  have s4 := f4.size
  have zd : w3.drew.heap.size = w3.heap.size := rfl
  exact ⟨⟨x, ct, l, ⟨t, 0, none⟩, rfl, ⟨r5, rc.ext f5, rl.ext f5, rfl, by omega, by omega, by omega⟩, by omega, by omega, by omega⟩, ((((f1.trans f2).trans f3).trans (Ext.drew w3)).trans f4).trans f5⟩
end Go.Proofs
