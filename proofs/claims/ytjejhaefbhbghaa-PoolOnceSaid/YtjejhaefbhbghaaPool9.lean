import Derived.Test.YtjejhaefbhbghaaPool8
/- The statement's other parts. -/
namespace Go.Proofs
open Gp
open Gp.Pool (stepL stepL_get alike cls oth wantsL)
set_option maxRecDepth 100000

theorem host1 : hostA 3325256705 := ⟨by decide, by decide, by kernel_rfl, by kernel_rfl, by kernel_rfl⟩
theorem host2 : hostA 16777216 := ⟨by decide, by decide, by kernel_rfl, by kernel_rfl, by kernel_rfl⟩
theorem free1 : freeP 17 3325256705 [] (wantsL 1024 2000 5000 (cls 5000) (oth 5000)) = some 1024 := by kernel_rfl

theorem awake19_ok (w : World) : c_law19_awake w fun r w' => r = true ∧ Ext w w' := by
  apply ok_law19_awake
  unfold s_law19_awake
  refine Al_e fun b w1 r1 e1 z1 f1 => ?_
  refine cm_pool_New (new_ok r1 host1 (by omega) (by omega) (by omega)) ?_
  rintro _ _ w2 ⟨f2, rfl, p, a, g, c, pad, rfl, hp, ha, hg, n1, n2, l1, l2, l3⟩
  simp only [Option.isNone_some, cond_false, bne_self_eq_false]
  refine cm_pool_Pool_Take (take_ok hp ha hg n1 n2 (.inr rfl) ⟨by omega, by omega⟩ ⟨by omega, by omega⟩ (by omega) (by omega)) ?_
  rintro x y z e w3 ⟨f3, h⟩
  rw [free1] at h
  rcases h with ⟨q, hq, rfl, rfl, rfl, rfl, hm⟩ | ⟨h, _⟩
  · cases hq
    refine Al_e fun t w4 r4 e4 z4 f4 => StN_full r4 rfl rfl fun w5 r5 f5 z5 => ?_
    have x45 : Ext w3 w5 := f4.new (f5 (· = t) rfl) fun x hx e => by omega
    have hp5 := (hp.fr f3 (by omega)).ext x45
    have hm5 := hm.ext x45
    simp only [Ld_eq, List.getElem?_cons_zero, List.getElem?_cons_succ, LdV_some, dec_int, add_mk, Nat.zero_add, Nat.add_zero, r5.cell]
    refine cm_pool_Pool_Used (used_ok hp5 hm5) ?_
    rintro _ w' ⟨rfl, hw⟩
    subst hw
    simp only [List.getElem?_cons_zero, List.getElem?_cons_succ, LdV_some, dec_int, r5.cell]
    refine cm_pool_Pool_Free (free_ok hp5 hm5 (by simp)) ?_
    rintro _ w6 ⟨rfl, f6⟩
    have s1 := f1.size
    exact ⟨by trivial, (f1.trans f2).new ((f3.ext x45).trans f6 fun _ _ e => e) fun b hb e => by omega⟩
  · cases h

end Go.Proofs
