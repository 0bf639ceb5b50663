import Derived.Test.YtmcdmhegjhcjhaaGreatRnPc
/- A server that no call made. -/
namespace Go.Proofs
open Gp
set_option maxRecDepth 100000
set_option maxHeartbeats 1000000

/-- No server, or one without an engine. -/
def NoS (w : World) (t : Option Addr) : Prop := t = none ∨ ∃ a, t = some ⟨a, 0, none⟩ ∧ w.cell? ⟨a, 0, none⟩ = some (.pointer none)

section
variable {w : World} {t : Option Addr} (h : NoS w t)
 include h
theorem sready_ok : c_pcpd_Server_ready t w fun r w' => r = false ∧ w' = w := by
  apply ok_pcpd_Server_ready
  unfold s_pcpd_Server_ready
  rcases h with rfl | ⟨a, rfl, r⟩
  · simp only [Option.isNone_none, Bool.not_true, cond_false]; exact ⟨by trivial, by trivial⟩
  · simp only [Option.isNone_some, Bool.not_false, cond_true, StN_nil, Option.isNone_some, Option.isNone_none, cond_false, cond_true, ex_some, Ld_eq, List.getElem?_cons_zero, List.getElem?_cons_succ, LdV_some, dec_slice, dec_int, dec_bool, dec_ptr, dec_str, dec_map, dec_any, AtIx_some, add_mk, Nat.zero_add, Nat.add_zero, r, Option.isNone_none, Bool.not_true]; exact ⟨by trivial, by trivial⟩
theorem sserve_ok (a b : Int) (s : SliceV) : c_pcpd_Server_Serve t a b s w fun _ e w' => e = 2 ∧ w' = w := by
  apply ok_pcpd_Server_Serve
  unfold s_pcpd_Server_Serve
  refine cm_pcpd_Server_ready (sready_ok h) ?_
  rintro r w1 ⟨rfl, hw⟩
  subst hw
  rw [Bool.not_false, cond_true]
  exact ⟨rfl, rfl⟩
theorem sadv_ok (n : Int) : c_pcpd_Server_Advance t n w fun r w' => r = 0 ∧ w' = w := by
  apply ok_pcpd_Server_Advance
  unfold s_pcpd_Server_Advance
  refine cm_pcpd_Server_ready (sready_ok h) ?_
  rintro r w1 ⟨rfl, hw⟩
  subst hw
  rw [Bool.not_false, cond_true]
  exact ⟨rfl, rfl⟩
theorem snow_ok : c_pcpd_Server_Now t w fun r w' => r = 0 ∧ w' = w := by
  apply ok_pcpd_Server_Now
  unfold s_pcpd_Server_Now
  refine cm_pcpd_Server_ready (sready_ok h) ?_
  rintro r w1 ⟨rfl, hw⟩
  subst hw
  rw [Bool.not_false, cond_true]
  exact ⟨rfl, rfl⟩
end

theorem snew_ok (w : World) : c_pcpd_New none 1 w fun _ e w' => e = 1 ∧ w' = w := by
  apply ok_pcpd_New
  unfold s_pcpd_New
  simp only [Option.isNone_none, cond_true]
  exact ⟨by trivial, by trivial⟩

/-- What no server has: none. -/
theorem leases_ok (w : World) : c_pcpd_Server_Leases none w fun v w' => Ext w w' ∧ ∃ f, Row w' f [.pointer none] ∧ w.heap.size ≤ f ∧ IterFn Tryz.prog [.agg [(.int .i64), (.int .i64), (.int .i64), (.int .i64)], .one (.int .i64)] v (fun W => Row W f [.pointer none]) [] := by
  apply ok_pcpd_Server_Leases
  unfold s_pcpd_Server_Leases
  refine ⟨rfl, Al_e fun f w1 r1 e1 z1 f1 => ⟨f1, f, r1, by omega, by kernel_rfl, fun l Q D hC hQ hD hy w2 h0 => ?_⟩⟩
  refine Calls.mono (ok_pcpd_Server_Leases_1 (a0 := .func (.yield l) #[] #[]) (f0 := ⟨f, 0, none⟩) (w := w2) (K := fun w' => Q 0 w') ?_) ?_
  · unfold s_pcpd_Server_Leases_1
    have r2 : Row w2 f [.pointer none] := hC 0 w2 h0
    simp only [StN_nil, Option.isNone_some, Option.isNone_none, cond_false, cond_true, ex_some, Ld_eq, List.getElem?_cons_zero, List.getElem?_cons_succ, LdV_some, dec_slice, dec_int, dec_bool, dec_ptr, dec_str, dec_map, dec_any, AtIx_some, add_mk, Nat.zero_add, Nat.add_zero, r2.cell]
    refine cm_pcpd_Server_ready (sready_ok (.inl rfl)) ?_
    rintro r w3 ⟨rfl, hw⟩
    subst hw
    rw [Bool.not_false, cond_true]
    exact h0
  · rintro e w3 ⟨he, hx⟩
    exact ⟨he, .inl hx⟩

theorem pcpdnobody_ok (a0 a1 : Int) (s : SliceV) (n : Int) (w : World) : c_law44_PcpdNobody a0 a1 s n w fun r w' => r = true ∧ Ext w w' := by
  apply ok_law44_PcpdNobody
  unfold s_law44_PcpdNobody
  refine Al_e fun b w1 rb eb zb f1 => ?_
  refine cm_law44_awake (awake_ok _) ?_
  rintro r w2 ⟨rfl, f2⟩
  rw [Bool.not_true, cond_false]
  have rb2 := rb.ext f2
  refine Al_e fun a w3 ra ea za f3 => ?_
  have hz : NoS w3 (some ⟨a, 0, none⟩) := .inr ⟨a, rfl, by rw [ra.cell]; rfl⟩
  have hn : ∀ W, NoS W none := fun _ => .inl rfl
  refine cm_pcpd_Server_Serve (sserve_ok (hn _) a0 a1 s) ?_
  rintro _ e w4 ⟨rfl, hw⟩
  subst hw
  refine cm_pcpd_Server_Serve (sserve_ok hz a0 a1 s) ?_
  rintro _ e w4 ⟨rfl, hw⟩
  subst hw
  refine cm_pcpd_New (snew_ok _) ?_
  rintro _ e w4 ⟨rfl, hw⟩
  subst hw
  refine cm_pcpd_Server_Leases (leases_ok _) ?_
  rintro v w5 ⟨f5, f, rf, hf, hv⟩
  have rb5 := (rb2.ext f3).ext f5
  have ra5 := ra.ext f5
  have hbl := rb5.lt
  have hal := ra5.lt
  have hfl := rf.lt
  have hx5 : Ext w w5 := ((f1.trans f2).trans f3).trans f5
  have lq : lAt none w5 = w5.heap.size + 1 := rfl
  refine rng_iter hv (fun i W => i = 0 ∧ Row W b [.bool false] ∧ Row W a [.pointer none, .pointer none, .map none, .map none, .int .i64 0, .int .i64 0, .int .i64 0] ∧ Row W f [.pointer none] ∧ Ext w W) (fun _ _ => False) (by simp) ?_ ?_ ?_ ?_ ?_ ?_ ?_ ?_ ?_
  · exact fun W hx _ => ⟨rfl, rb5.ext hx, ra5.ext hx, rf.ext hx, hx5.trans hx⟩
  · exact fun i W hI => hI.2.2.2.1
  · rintro i W W' ⟨h1, h2, h3, h4, h5⟩ hf
    rw [lq] at hf
    exact ⟨h1, h2.fr hf (by omega), h3.fr hf (by omega), h4.fr hf (by omega), h5.new hf fun x hx e => by have := hx5.size; omega⟩
  · exact fun _ _ _ h => h.elim
  · exact fun _ _ h => h.elim
  · intro i x W Kb hx
    cases hx
  · rintro W ⟨_, h2, h3, h4, h5⟩ hm
    have hm := hm rfl
    have hmlt := (Array.getElem?_eq_some_iff.1 hm).1
    have hz' : NoS W (some ⟨a, 0, none⟩) := .inr ⟨a, rfl, by rw [h3.cell]; rfl⟩
    intro J
    simp -zeta only [show ((2 : Int) == 2) = true from rfl, show ((1 : Int) == 1) = true from rfl, cond_true]
    refine cm_pcpd_Server_Advance (sadv_ok (hn _) n) ?_
    rintro r w6 ⟨rfl, hw⟩
    subst hw
    simp -zeta only [show ((0 : Int) == 0) = true from rfl, cond_true]
    refine cm_pcpd_Server_Advance (sadv_ok hz' n) ?_
    rintro r w6 ⟨rfl, hw⟩
    subst hw
    simp -zeta only [show ((0 : Int) == 0) = true from rfl, cond_true]
    refine cm_pcpd_Server_Now (snow_ok (hn _)) ?_
    rintro r w6 ⟨rfl, hw⟩
    subst hw
    simp -zeta only [show ((0 : Int) == 0) = true from rfl, cond_true]
    refine cm_law44_awake (awake_ok _) ?_
    rintro r w7 ⟨rfl, f7⟩
    have r7 := h2.ext f7
    refine St_row r7 rfl (by simp) fun w8 r8 f8 z8 => ?_
    simp only [List.set_cons_zero] at r8
    have f8b := f8 (· = b) rfl
    simp only [J]
    refine ⟨?_, ?_⟩
    · rw [f8b.same _ (by have := f7.size; omega) (by omega), (f7 fun _ => False).same _ hmlt (by simp)]
      exact hm
    · have fp := Fr8.putDef w8 w5.heap.size (.deferred none)
      have q1 := r8.fr fp (by omega)
      simp only [StN_nil, Option.isNone_some, Option.isNone_none, cond_false, cond_true, ex_some, Ld_eq, List.getElem?_cons_zero, List.getElem?_cons_succ, LdV_some, dec_slice, dec_int, dec_bool, dec_ptr, dec_str, dec_map, dec_any, AtIx_some, add_mk, Nat.zero_add, Nat.add_zero, q1.cell]
      refine ⟨by trivial, ((h5.trans f7).new f8b fun x hx e => ?_).new fp fun x hx e => ?_⟩
      · omega
      · have := hx5.size; omega
  · exact fun _ h => h.elim
  · exact fun _ _ h => h.elim
end Go.Proofs
