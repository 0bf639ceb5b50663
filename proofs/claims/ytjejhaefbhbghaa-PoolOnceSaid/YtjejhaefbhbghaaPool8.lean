import Derived.Test.YtjejhaefbhbghaaPool7
/- Free. -/
namespace Go.Proofs
open Gp
open Gp.Pool (stepL stepL_get alike cls oth wantsL)
set_option maxRecDepth 100000

theorem MapDel_B {α : Type} [DecidableEq α] {enc : α → Value} {w : World} {r : Nat} {xs : List α} {P : Program} {kt : TypeId} (h : MapB enc w r xs) (hE : ∀ a b : α, eqT P 16 kt (enc a) (enc b) = some (decide (a = b))) (a : α) (hk : keyOK P kt (enc a) = true) (hm : a ∈ xs) {K : World → Prop}
    (hK : ∀ w', Fr8 w w' (· = r) → K w') : MapDel P kt (some r) (enc a) w K := by
  obtain ⟨es, c, h1, h2⟩ := h
  obtain ⟨j, hj⟩ := (findV_mem hE a es.toList xs 0 h2).1 hm
  exact ⟨hk, .inr ⟨r, es, c, rfl, h1, _, hj, hK _ (Fr8.putDef _ _ _)⟩⟩

theorem free_ok {w : World} {p g : Nat} {lo hi : Int} {s : SliceV} {G : List O3} {x y z : Int} (h : Row w p (poolV lo hi s g)) (hg : MapB encO w g G) (hm : (x, y, z) ∈ G) :
    c_pool_Pool_Free (some ⟨p, 0, none⟩) x y z w fun r w' => r = true ∧ Fr8 w w' (· = g) := by
  apply ok_pool_Pool_Free
  unfold s_pool_Pool_Free
  refine Al_e fun t w1 r1 e1 z1 f1 => ?_
  have hp := (h.ext f1).drew
  have hg1 := (hg.ext f1).ext (Ext.drew w1)
  simp only
  refine cm_pool_Pool_ready (ready_ok hp) ?_
  rintro _ w' ⟨rfl, hw⟩
  subst hw
  simp only [Bool.not_true, cond_false, cond_false, cond_true, ex_some, Ld_eq, List.getElem?_cons_zero, List.getElem?_cons_succ, LdV_some, dec_int, dec_map, add_mk, Nat.zero_add, Nat.add_zero, hp.cell, r1.drew.cell]
  refine MapGet_B hg1 eqO (x, y, z) (keyO_ok _) ?_
  simp only [hm, decide_true, Bool.not_true, cond_false, cond_false, List.getElem?_cons_zero, List.getElem?_cons_succ, LdV_some, dec_int, dec_map, hp.drew.cell, r1.drew.drew.cell]
  refine MapDel_B (hg1.ext (Ext.drew _)) eqO (x, y, z) (keyO_ok _) hm fun w2 f2 => ?_
  exact ⟨by trivial, ((f1.trans (Ext.drew _)).trans (Ext.drew _)).fr f2⟩

end Go.Proofs
