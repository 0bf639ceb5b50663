import Derived.Test.YtgnlnicmgnkliaaBind2
/- Bindings that no call made; and that the laws are awake. -/
namespace Go.Proofs
open Gp Gp.Hash
open Gp.Bind (Bnd Slots live GoodB freeN getS In64)
set_option maxRecDepth 100000

def wakeB : Bnd := ⟨0, 17, 0, 1, 17, 0, 2, false⟩

theorem awake22_ok (w : World) : c_law22_awake w fun r w' => r = true ∧ Ext w w' := by
  apply ok_law22_awake
  unfold s_law22_awake
  refine cm_bind_New (dnew_ok 2 w) ?_
  rintro p e w1 ⟨f1, (⟨hbad, _, _⟩ | ⟨_, _, rfl, A, rfl, hfp, h⟩)⟩
  · omega
  simp only [Option.isNone_some, show ((0 : Int) != 0) = false from rfl, cond_false]
  refine Al_f rfl rfl fun a w2 r2 e2 z2 f2 => ?_
  simp only [Ld_eq, List.getElem?_cons_zero, List.getElem?_cons_succ, LdV_some, dec_int, dec_bool, add_mk, Nat.zero_add, Nat.add_zero, r2.cell]
  have h2 := h.ext f2
  have ok : wakeB.ok := by
    constructor
    · intro n hn
      simp only [wakeB, Bnd.i, List.mem_cons, List.not_mem_nil, or_false] at hn
      rcases hn with rfl | rfl | rfl | rfl <;> constructor <;> omega
    · intro n hn
      simp only [wakeB, Bnd.o, List.mem_cons, List.not_mem_nil, or_false] at hn
      rcases hn with rfl | rfl | rfl <;> constructor <;> omega
  have z2' := f2.size
  refine cm_bind_DB_Add (dadd_ok h2 wakeB ok fun x hx => by have := (hfp x hx).2; omega) ?_
  have ha : addS (List.replicate (Int.toNat 2) none) (fun _ => none) (fun _ => none) wakeB = (0, 0) := rfl
  rw [ha]
  rintro n e w3 ⟨he, f3, A', S', Mi', Mo', h3, hd, hfp3, _, hS⟩
  simp only [Prod.mk.injEq] at he
  obtain ⟨rfl, rfl⟩ := he
  have hS : S' = [some wakeB, none] := hS
  subst hS
  have hap : ∀ x, fp A x → x ≠ a := fun x hx e => by have := (hfp x hx).2; omega
  have r3 := r2.fr f3 fun hx => hap a hx rfl
  have hMi := (h3.good.i (Bind.keyS wakeB.i) 0).2 ⟨0, wakeB, rfl, rfl, rfl⟩
  have hMo := (h3.good.o (Bind.keyS wakeB.o) 0).2 ⟨0, wakeB, rfl, rfl, rfl⟩
  simp only [List.getElem?_cons_zero, List.getElem?_cons_succ, LdV_some, dec_int, r3.cell]
  rw [← hd]
  refine cm_bind_DB_Find (dfind_ok h3 0 17 0 1 ok.1) ?_
  rintro n4 t4 w4 ⟨ht4, hn4, f4⟩
  rw [show ([0, 17, 0, 1] : List Int) = wakeB.i from rfl, hMi] at ht4 hn4
  have ht4 : t4 = true := ht4
  have hn4 : n4 = 0 := hn4
  subst ht4 hn4
  simp only [cond_true, List.getElem?_cons_zero, List.getElem?_cons_succ, LdV_some, dec_int, (r3.ext f4).cell]
  refine cm_bind_DB_Back (dback_ok (h3.ext f4) 17 0 2 ok.2) ?_
  rintro n5 t5 w5 ⟨ht5, hn5, f5⟩
  rw [show ([17, 0, 2] : List Int) = wakeB.o from rfl, hMo] at ht5 hn5
  have ht5 : t5 = true := ht5
  have hn5 : n5 = 0 := hn5
  subst ht5 hn5
  simp only [show ((0 : Int) == 0) = true from rfl, cond_true]
  refine cm_bind_DB_Len (dlen_ok ((h3.ext f4).ext f5)) ?_
  rintro n6 w6 ⟨rfl, hw⟩
  subst hw
  refine ⟨rfl, ((f1.trans f2).new f3 fun y hy hx => by have := (hfp y hx).1; omega).trans (f4.trans f5)⟩

/-! ### Nobody's -/
def DeadP (w : World) (p : Option Addr) : Prop := p = none ∨ ∃ z, p = some ⟨z, 0, none⟩ ∧ w.cell? ⟨z, 1, none⟩ = some (.pointer none)

theorem DeadP.ext {w w' : World} {p : Option Addr} (h : DeadP w p) (hf : Ext w w') : DeadP w' p := by
  rcases h with h | ⟨z, h1, h2⟩
  · exact .inl h
  · exact .inr ⟨z, h1, cell_ext h2 hf⟩

theorem ready_dead {w : World} {p : Option Addr} (h : DeadP w p) : c_bind_DB_ready p w fun r w' => r = false ∧ w' = w := by
  apply ok_bind_DB_ready
  unfold s_bind_DB_ready
  rcases h with rfl | ⟨z, rfl, h2⟩
  · simp only [Option.isNone_none, Bool.not_true, cond_false]
    exact ⟨by trivial, by trivial⟩
  · simp only [Option.isNone_some, Option.isNone_none, cond_true, ex_some, Ld_eq, LdV_some, dec_ptr, add_mk, Nat.zero_add, h2, Bool.not_false, Bool.not_true]
    exact ⟨by trivial, by trivial⟩

theorem add_dead {w : World} {p : Option Addr} (h : DeadP w p) (a b c d e f g : Int) (t : Bool) : c_bind_DB_Add p a b c d e f g t w fun n e w' => e = 2 ∧ Ext w w' := by
  apply ok_bind_DB_Add
  unfold s_bind_DB_Add
  refine Al_e fun q w1 r1 _ _ f1 => ?_
  refine cm_bind_DB_ready (ready_dead (h.ext f1)) ?_
  rintro _ w2 ⟨rfl, hw⟩
  subst hw
  simp only [Bool.not_false, cond_true]
  exact ⟨by trivial, f1⟩

theorem has_dead {w : World} {p : Option Addr} (h : DeadP w p) (id : Int) : c_bind_DB_has p id w fun r w' => r = false ∧ w' = w := by
  apply ok_bind_DB_has
  unfold s_bind_DB_has
  refine cm_bind_DB_ready (ready_dead h) ?_
  rintro _ w2 ⟨rfl, hw⟩
  subst hw
  simp only [cond_false]
  exact ⟨by trivial, by trivial⟩

theorem get_dead {w : World} {p : Option Addr} (h : DeadP w p) (id : Int) : c_bind_DB_Get p id w fun _ _ _ _ _ _ _ _ r w' => r = false ∧ Ext w w' := by
  apply ok_bind_DB_Get
  unfold s_bind_DB_Get
  refine Al_e fun q w1 r1 e1 _ f1 => ?_
  refine cm_bind_DB_has (has_dead (h.ext f1) id) ?_
  rintro _ w2 ⟨rfl, hw⟩
  subst hw
  simp only [Bool.not_false, cond_true]
  refine StN_full r1 rfl rfl fun w3 r3 f3 _ => ?_
  simp only [Ld_eq, List.getElem?_cons_zero, List.getElem?_cons_succ, LdV_some, dec_int, dec_bool, add_mk, Nat.zero_add, Nat.add_zero, r3.cell]
  exact ⟨by trivial, f1.new (f3 (· = q) rfl) fun y hy e => by omega⟩

theorem find_dead {w : World} {p : Option Addr} (h : DeadP w p) (a b c d : Int) : c_bind_DB_Find p a b c d w fun _ t w' => t = false ∧ Ext w w' := by
  apply ok_bind_DB_Find
  unfold s_bind_DB_Find
  refine Al_e fun q w1 r1 e1 _ f1 => ?_
  refine cm_bind_DB_ready (ready_dead (h.ext f1)) ?_
  rintro _ w2 ⟨rfl, hw⟩
  subst hw
  simp only [Bool.not_false, cond_true]
  exact ⟨by trivial, f1⟩

theorem back_dead {w : World} {p : Option Addr} (h : DeadP w p) (a b c : Int) : c_bind_DB_Back p a b c w fun _ t w' => t = false ∧ Ext w w' := by
  apply ok_bind_DB_Back
  unfold s_bind_DB_Back
  refine Al_e fun q w1 r1 e1 _ f1 => ?_
  refine cm_bind_DB_ready (ready_dead (h.ext f1)) ?_
  rintro _ w2 ⟨rfl, hw⟩
  subst hw
  simp only [Bool.not_false, cond_true]
  exact ⟨by trivial, f1⟩

theorem remove_dead {w : World} {p : Option Addr} (h : DeadP w p) (id : Int) : c_bind_DB_Remove p id w fun r w' => r = false ∧ w' = w := by
  apply ok_bind_DB_Remove
  unfold s_bind_DB_Remove
  refine cm_bind_DB_has (has_dead h id) ?_
  rintro _ w2 ⟨rfl, hw⟩
  subst hw
  simp only [Bool.not_false, cond_true]
  exact ⟨by trivial, by trivial⟩

theorem len_dead {w : World} {p : Option Addr} (h : DeadP w p) : c_bind_DB_Len p w fun n w' => n = 0 ∧ w' = w := by
  apply ok_bind_DB_Len
  unfold s_bind_DB_Len
  refine cm_bind_DB_ready (ready_dead h) ?_
  rintro _ w2 ⟨rfl, hw⟩
  subst hw
  simp only [Bool.not_false, cond_true]
  exact ⟨by trivial, by trivial⟩

theorem all_dead (f0 : Nat) :
    IterFn Try.prog [.one (.int .i64), .agg [(.int .i64), (.int .i64), (.int .i64), (.int .i64), (.int .i64), (.int .i64), (.int .i64), .bool]] (Value.func (.func n_bind_DB_All_1) #[] #[(Value.pointer (some ⟨f0, 0, none⟩))])
      (fun W => Row W f0 [.pointer none]) [] := by
  refine ⟨by kernel_rfl, fun n Q D hC hQ hD hy w h0 => ?_⟩
  refine Calls.mono (ok_bind_DB_All_1 (a0 := .func (.yield n) #[] #[]) (f0 := ⟨f0, 0, none⟩) (K := fun w' => Q 0 w' ∨ D w') ?_) (fun e w' h => h)
  unfold s_bind_DB_All_1
  have r0 := hC _ _ h0
  simp only [cond_false, Ld_eq, List.getElem?_cons_zero, LdV_some, dec_ptr, r0.cell]
  refine cm_bind_DB_ready (ready_dead (.inl rfl)) ?_
  rintro _ w2 ⟨rfl, hw⟩
  subst hw
  simp only [Bool.not_false, cond_true]
  exact .inl h0

theorem bnobody_ok (w : World) (a b c d e f g : Int) (t : Bool) (id : Int) : c_law22_BindNobody a b c d e f g t id w fun r w' => r = true ∧ Ext w w' := by
  apply ok_law22_BindNobody
  unfold s_law22_BindNobody
  refine Al_e fun p w1 r1 e1 z1 f1 => Al_e fun q w2 r2 e2 z2 f2 => ?_
  have r1 := r1.ext f2
  refine cm_law22_awake (awake22_ok _) ?_
  rintro _ w3 ⟨rfl, f3⟩
  simp only [Bool.not_true, cond_false]
  refine Al_e fun z w4 r4 e4 z4 f4 => ?_
  have y4 := f3.trans f4
  have x4 := (f1.trans f2).trans y4
  have r1 := r1.ext y4
  have hn : ∀ W, DeadP W none := fun W => .inl rfl
  have hz : DeadP w4 (some ⟨z, 0, none⟩) := .inr ⟨z, rfl, by rw [r4.cell]; rfl⟩
  simp only [Ld_eq, List.getElem?_cons_zero, List.getElem?_cons_succ, LdV_some, dec_int, dec_bool, add_mk, Nat.zero_add, Nat.add_zero, r1.cell]
  refine cm_bind_DB_Add (add_dead (hn _) _ _ _ _ _ _ _ _) ?_
  rintro n5 _ w5 ⟨rfl, f5⟩
  simp only [List.getElem?_cons_zero, List.getElem?_cons_succ, LdV_some, dec_int, dec_bool, (r1.ext f5).cell]
  refine cm_bind_DB_Add (add_dead (hz.ext f5) _ _ _ _ _ _ _ _) ?_
  rintro n6 _ w6 ⟨rfl, f6⟩
  refine cm_bind_DB_Get (get_dead (hn _) id) ?_
  rintro g1 g2 g3 g4 g5 g6 g7 g8 _ w7 ⟨rfl, f7⟩
  refine Al_f rfl rfl fun y w8 r8 e8 z8 f8 => ?_
  have y8 := (f5.trans f6).trans (f7.trans f8)
  simp only [List.getElem?_cons_zero, List.getElem?_cons_succ, LdV_some, dec_int, (r1.ext y8).cell]
  refine cm_bind_DB_Find (find_dead (hz.ext y8) _ _ _ _) ?_
  rintro n9 _ w9 ⟨rfl, f9⟩
  simp only [List.getElem?_cons_zero, List.getElem?_cons_succ, LdV_some, dec_int, (r1.ext (y8.trans f9)).cell]
  refine cm_bind_DB_Back (back_dead (hn _) _ _ _) ?_
  rintro n10 _ w10 ⟨rfl, f10⟩
  apply ok_bind_DB_All
  unfold s_bind_DB_All
  refine ⟨rfl, Al_e fun fc w11 r11 e11 z11 f11 => ?_⟩
  have y11 := y8.trans ((f9.trans f10).trans f11)
  have x11 := x4.trans y11
  have hq := r2.ext (y4.trans y11)
  have hql := r2.lt
  have z411 := (y4.trans y11).size
  refine rng_iter (all_dead fc) (fun _ W => Ext w11 W ∧ w11.heap.size + 2 ≤ W.heap.size) (fun _ _ => False) (by simp) ?_ ?_ ?_ (by intro e W W' h; exact h.elim) (by intro e W h; exact h.elim) ?_ ?_ (by intro W h; exact h.elim) (by intro id W h; exact h.elim)
  · intro w12 f12 z12
    exact ⟨f12, by have : lAt none w11 = w11.heap.size + 1 := rfl; omega⟩
  · exact fun i W h => r11.ext h.1
  · rintro i W W' ⟨h1, h2⟩ hf
    have : lAt none w11 = w11.heap.size + 1 := rfl
    exact ⟨h1.new hf fun y hy e => by omega, by have := hf.size; omega⟩
  · intro i x W Kb hx
    simp at hx
  · rintro W ⟨hx, hs⟩ hm
    have hmk := hm rfl
    have hzW : DeadP W (some ⟨z, 0, none⟩) := (hz.ext y11).ext hx
    simp only [show ((2 : Int) == 2) = true from rfl, Bool.not_false, cond_true]
    refine cm_bind_DB_Remove (remove_dead (hn _) id) ?_
    rintro _ w13 ⟨rfl, hw⟩
    subst hw
    simp only [Bool.not_false, cond_true]
    refine cm_bind_DB_Remove (remove_dead hzW id) ?_
    rintro _ w14 ⟨rfl, hw⟩
    subst hw
    simp only [Bool.not_false, cond_true]
    refine cm_bind_DB_Len (len_dead (hn _)) ?_
    rintro _ w15 ⟨rfl, hw⟩
    subst hw
    simp only [show ((0 : Int) == 0) = true from rfl, cond_true]
    refine cm_law22_awake (awake22_ok _) ?_
    rintro _ w16 ⟨rfl, f16⟩
    refine St_row ((hq.ext hx).ext f16) rfl (by simp) fun w17 r17 f17 z17 => ?_
    simp only [List.set_cons_zero] at r17
    have f17q := f17 (· = q) rfl
    have s16 := f16.size
    refine ⟨?_, ?_⟩
    · rw [f17q.same _ (by omega) (by omega), (f16 fun _ => False).same _ (by omega) (by simp)]; exact hmk
    · have pf := Fr8.putDef w17 w11.heap.size (.deferred none)
      simp only [List.getElem?_cons_zero, LdV_some, dec_bool, (r17.fr pf (by omega)).cell]
      exact ⟨by trivial, (((x11.trans hx).trans f16).new f17q fun y hy e => by omega).new pf fun y hy e => by omega⟩
end Go.Proofs
