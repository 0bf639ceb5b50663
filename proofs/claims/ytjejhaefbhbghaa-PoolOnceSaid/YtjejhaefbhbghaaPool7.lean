import Derived.Test.YtjejhaefbhbghaaPool6
/- Clone of one number; a new pool. -/
namespace Go.Proofs
open Gp
open Gp.Pool (stepL stepL_get alike cls oth wantsL)
set_option maxRecDepth 100000

theorem clone1_ok {w : World} {b : Nat} {x : Int} (h : Row w b [.int .i64 x]) : c_slices_Clone_int_int ⟨some ⟨b, 0, none⟩, 1, 1⟩ w fun r w' => Ext w w' ∧ ∃ a c pad, r = ⟨some ⟨a, 0, none⟩, 1, c⟩ ∧ Row w' a (.int .i64 x :: pad) ∧ w.heap.size ≤ a := by
  apply ok_slices_Clone_int_int
  unfold s_slices_Clone_int_int
  simp only [Option.isNone_some, cond_false]
  refine Al_e fun a w1 r1 e1 z1 f1 => ?_
  have hb := h.ext f1
  refine AppSl_bufN (α := Int) (n := 1) (f := fun y => [.int .i64 y]) (xs := []) (ys := [x]) (fun _ => rfl) ⟨rfl, .inr ⟨a, [], rfl, rfl, r1⟩⟩ ⟨rfl, ?_, by simp⟩ rfl (by omega) (fun _ v hv => by simp at hv; subst hv; rfl) (by simp) (by simp) fun s' w2 hs' f2 hat => ?_
  · refine ⟨rfl, fun j hj => ?_⟩
    have : j = 0 := by simpa using hj
    subst this
    exact hb.cell 0
  · obtain ⟨l', m⟩ := hs'
    rcases m with ⟨_, m, _⟩ | ⟨d, pad, hd, _, hr⟩
    · simp at m
    · obtain ⟨q, ql, qc⟩ := s'
      simp only at hd l'
      subst hd
      simp at l'
      subst l'
      have hs := f1.size
      have hat := hat d ⟨0, rfl⟩
      refine ⟨f1.new f2 fun b hb' ⟨o, e⟩ => ?_, d, qc, pad, rfl, by simpa using hr, ?_⟩
      · simp at e; omega
      · rcases hat with ⟨o, e⟩ | e
        · simp at e; omega
        · omega

theorem Al_map {w : World} {K : Addr → World → Prop} (h : ∀ w1, (∀ (α : Type) (enc : α → Value), MapB enc w1 w.heap.size []) → w1.heap.size = w.heap.size + 1 → Ext w w1 → K ⟨w.heap.size, 0, none⟩ w1) : Al w (.map #[] 0) K :=
  h _ (fun _ enc => MapB.new w enc) (by simp) (fun S => Fr8.alloc w _ S)

theorem new_ok {w : World} {b : Nat} {ad lo hi : Int} (hb : Row w b [.int .i64 ad]) (hh : hostA ad) (h1 : 1 ≤ lo) (h2 : lo ≤ hi) (h3 : hi < 65536) :
    c_pool_New ⟨some ⟨b, 0, none⟩, 1, 1⟩ lo hi w fun r e w' => Ext w w' ∧ e = 0 ∧ ∃ p a g c pad, r = some ⟨p, 0, none⟩ ∧ Row w' p (poolV lo hi ⟨some ⟨a, 0, none⟩, 1, c⟩ g) ∧ Row w' a (.int .i64 ad :: pad) ∧ MapB encO w' g [] ∧
      p ≠ g ∧ a ≠ g ∧ w.heap.size ≤ p ∧ w.heap.size ≤ a ∧ w.heap.size ≤ g := by
  apply ok_pool_New
  unfold s_pool_New
  have t1 : ¬ (((1 : Nat) : Int) < 1) := by omega
  have t2 : ¬ (((1 : Nat) : Int) > 16) := by omega
  have t3 : ¬ (lo < 1) := by omega
  have t4 : ¬ (hi < lo) := by omega
  have t5 : ¬ (hi ≥ 65536) := by omega
  simp only [t1, t2, t3, t4, t5, decide_false, cond_false]
  refine LoopP_inv (fun st W => Ext w W ∧ (st.1 = 0 ∨ st.1 = 1)) (fun st _ => (1 - st.1).toNat) ⟨Ext.refl w, .inl rfl⟩ ?_
  rintro ⟨i, ⟨⟩⟩ W ⟨hx, hi'⟩ next hnext
  simp only at hi'
  rcases hi' with rfl | rfl
  · have hl : ((0 : Int) < ((1 : Nat) : Int)) := by omega
    have rb := hb.ext hx
    simp only [hl, decide_true, cond_true, cond_true, Ld_eq, List.getElem?_cons_zero, LdV_some, dec_int, AtIx_some, add_mk, Nat.add_zero, Int.toNat_zero, Nat.zero_mul, rb.cell]
    refine ⟨by first | trivial | omega, by first | trivial | omega, ?_⟩
    refine cm_four_Host (host_ok hh _) ?_
    rintro _ w2 ⟨rfl, x2⟩
    simp only [Bool.not_true, cond_false]
    refine ⟨by omega, by omega, by omega, ?_⟩
    refine cm_slices_Contains_int_int (contains_nil ad w2) ?_
    rintro _ w' ⟨rfl, hw⟩
    subst hw
    simp only [cond_false]
    exact hnext _ _ ⟨hx.trans x2, .inr (by rw [wrap_i64 (by omega) (by omega)]; rfl)⟩ (by simp only; rw [wrap_i64 (by omega) (by omega)]; omega)
  · have hl : ¬ ((1 : Int) < ((1 : Nat) : Int)) := by omega
    have rb := hb.ext hx
    simp only [hl, decide_false, cond_false]
    refine cm_slices_Clone_int_int (clone1_ok rb) ?_
    rintro _ w2 ⟨x2, a, c, pad, rfl, ra, la⟩
    refine Al_map fun w3 hm z3 x3 => ?_
    refine Al_e fun p w4 rp ep zp x4 => ?_
    have l1 := ra.lt
    have l2 := hx.size
    have l3 := x2.size
    exact ⟨((hx.trans x2).trans x3).trans x4, by trivial, p, a, w2.heap.size, c, pad, rfl, rp, (ra.ext x3).ext x4, (hm _ _).ext x4, by omega, by omega, by omega, by omega, by omega⟩

end Go.Proofs
