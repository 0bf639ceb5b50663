import Derived.Test.YtcoolonmnjacfaaJN1
/- What the table's calls give. -/
namespace Go.Proofs
open Gp Gp.Hol Gp.Jn
set_option maxRecDepth 100000
set_option maxHeartbeats 1000000

section
variable {w w' : World} {t m : Nat} {many bytes wait : Int} {rs : List (Key × JE)}

theorem jready_ok (h : JAt w t m many bytes wait rs) : c_join_Table_ready (some ⟨t, 0, none⟩) w fun r w' => r = true ∧ w' = w := by
  apply ok_join_Table_ready
  unfold s_join_Table_ready
  simp only [Option.isNone_some, Bool.not_false, cond_true, Option.isNone_some, cond_true, ex_some, Ld_eq, List.getElem?_cons_zero, LdV_some, dec_map, h.row.cell]
  exact ⟨by trivial, by trivial⟩

theorem sumL_nonneg (l : List (Key × JE)) : 0 ≤ (l.map fun e => sum e.2.1.l).sum := by
  induction l with
  | nil => simp
  | cons e l ih => rw [List.map_cons, List.sum_cons]; have := sum_nonneg e.2.1.l; omega

theorem jsum_ok (h : JAt w t m many bytes wait rs) (hl : jsum (jtab rs) ≤ 2 ^ 40) : c_join_Table_sum (some ⟨t, 0, none⟩) w fun n w' => n = jsum (jtab rs) ∧ Ext w w' := by
  have htab := jsum_tab rs fun e he => (h.bufs e he).perm
  rw [htab] at hl ⊢
  apply ok_join_Table_sum
  unfold s_join_Table_sum
  simp only [ex_some, Ld_eq, List.getElem?_cons_zero, LdV_some, dec_map, h.row.cell]
  refine RngMap_F h.map fun w1 hit f1 z1 => ?_
  have hml := h.map.lt
  have hqm : w.heap.size ≠ m := by omega
  refine LoopP_inv (fun st W => ∃ todo, ItF encKy evBf W w.heap.size m rs todo ∧ 0 ≤ st.1 ∧ st.1 + (todo.map fun e => sum e.2.1.l).sum = (rs.map fun e => sum e.2.1.l).sum ∧ (∀ e ∈ todo, e ∈ rs) ∧ Fr8 w1 W (· = w.heap.size)) (fun _ W => leftM W w.heap.size m)
    ⟨rs, hit, by simp, by simp, fun e he => he, Fr8.refl _ _⟩ ?_
  rintro ⟨n, ⟨⟩⟩ W ⟨todo, hi, hn0, hn, hsub, hf⟩ next hnext
  have hn0 : 0 ≤ n := hn0
  have hn : n + (todo.map fun e => sum e.2.1.l).sum = (rs.map fun e => sum e.2.1.l).sum := hn
  refine ⟨rfl, NextM_F hi hqm (fun ht => ?_) fun i x w2 hx hi2 hcur f2 z2 => ⟨rfl, hcur _ ?_⟩⟩
  · subst ht
    simp only [List.map_nil, List.sum_nil, Int.add_zero] at hn
    exact ⟨hn, f1.new hf fun y hy e => by omega⟩
  · have hxm := hsub x (List.mem_of_getElem? hx)
    have f12 : Fr8 w1 w2 (· = w.heap.size) := hf.trans f2 fun _ _ e => e
    have hb : BAt w2 x.2 := ((h.bufs x hxm).ext f1).fr f12 fun z hz e => by have := (h.bufs x hxm).lt hz; omega
    refine ⟨_, rfl, ?_⟩
    simp only [List.getElem?_cons_zero, LdV_some, dec_ptr, hb.row.cell]
    refine cm_holes_Holes_Bytes (bytes_ok hb.H) ?_
    rintro r w3 ⟨rfl, hw⟩
    subst hw
    have he : (todo.map fun e => sum e.2.1.l).sum = sum x.2.1.l + ((todo.eraseIdx i).map fun e => sum e.2.1.l).sum := sum_erase (fun e : Key × JE => sum e.2.1.l) hx
    have h1 : 0 ≤ ((todo.eraseIdx i).map fun e => sum e.2.1.l).sum := sumL_nonneg (todo.eraseIdx i)
    have h2 := sum_nonneg x.2.1.l
    rw [wrap_i64 (by omega) (by omega)]
    refine hnext _ _ ⟨todo.eraseIdx i, hi2, by simp only; omega, by simp only; omega, fun e he => hsub e (List.mem_of_mem_eraseIdx he), f12⟩ ?_
    rw [hi2.left, hi.left, List.length_eraseIdx]
    have := (List.getElem?_eq_some_iff.1 hx).1
    rw [if_pos this]
    omega

theorem jbytes_ok (h : JAt w t m many bytes wait rs) (hl : jsum (jtab rs) ≤ 2 ^ 40) : c_join_Table_Bytes (some ⟨t, 0, none⟩) w fun n w' => n = jsum (jtab rs) ∧ Ext w w' := by
  apply ok_join_Table_Bytes
  unfold s_join_Table_Bytes
  refine cm_join_Table_ready (jready_ok h) ?_
  rintro r w1 ⟨rfl, hw⟩
  subst hw
  rw [Bool.not_true, cond_false]
  exact cm_join_Table_sum (jsum_ok h hl) fun _ _ hx => hx

theorem MapLen_J (h : MapF encKy evBf w m rs) {K : Int → Prop} (hK : K (rs.length : Int)) : MapLen w (some m) K := by
  obtain ⟨es, c, h1, h2, _⟩ := h
  refine ⟨es, c, h1, ?_⟩
  have : es.size = rs.length := by
    have := congrArg List.length h2
    simpa using this
  rw [this]; exact hK

theorem jbufs_ok (h : JAt w t m many bytes wait rs) : c_join_Table_Bufs (some ⟨t, 0, none⟩) w fun n w' => n = (rs.length : Int) ∧ w' = w := by
  apply ok_join_Table_Bufs
  unfold s_join_Table_Bufs
  refine cm_join_Table_ready (jready_ok h) ?_
  rintro r w1 ⟨rfl, hw⟩
  subst hw
  rw [Bool.not_true, cond_false]
  simp only [ex_some, Ld_eq, List.getElem?_cons_zero, LdV_some, dec_map, h.row.cell]
  exact MapLen_J h.map ⟨by trivial, by trivial⟩
end
end Go.Proofs
