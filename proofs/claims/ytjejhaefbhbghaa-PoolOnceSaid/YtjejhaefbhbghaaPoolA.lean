import Derived.Test.YtjejhaefbhbghaaPool9
/- The law PoolOnce. -/
namespace Go.Proofs
open Gp
open Gp.Pool (stepL stepL_get alike cls oth wantsL)
set_option maxRecDepth 100000

abbrev encP (x : Int) : Value := .int .i64 x

/-- The numbers that come in. -/
def WIn (w : World) (s : SliceV) : Prop := s.len ≤ 2 ^ 63 - 1 ∧ ∀ k, k < s.len → ∃ x a, 0 ≤ x ∧ x ≤ 65535 ∧ s.a = some a ∧ w.cell? (a.add k) = some (.int .u16 x)

theorem free_map {ad : Int} {S xs : List Int} : freeP 6 ad (S.map fun q => (6, ad, q)) xs = Gp.Pool.take S xs := by
  unfold freeP Gp.Pool.take
  congr 1
  funext q
  simp

theorem used_len {S : List Int} {lo : Int} {n : Nat} (hd : S.Nodup) (hi : ∀ x ∈ S, lo ≤ x ∧ x ≤ lo + (n : Int)) (ha : ∀ y, lo ≤ y → y ≤ lo + (n : Int) → y ∈ S) : S.length = n + 1 :=
  Gp.Pool.full_length hd (fun x hx => by have := hi x hx; omega) fun y h1 h2 => ha y h1 (by omega)

theorem WIn.ext {w w' : World} {s : SliceV} (h : WIn w s) (hf : Ext w w') : WIn w' s :=
  ⟨h.1, fun k hk => by obtain ⟨x, a, h1, h2, h3, h4⟩ := h.2 k hk; exact ⟨x, a, h1, h2, h3, cell_ext h4 hf⟩⟩

theorem add_block (a : Addr) (k : Nat) : (a.add k).block = a.block := by unfold Addr.add; split <;> rfl
theorem AtIx_of {s : SliceV} {size : Nat} {i : Int} {K : Addr → Prop} {a : Addr} (hs : s.a = some a) (h0 : 0 ≤ i) (h1 : i < (s.len : Int)) (hK : K (a.add (i.toNat * size))) : AtIx s size i K := by
  obtain ⟨_, _, _⟩ := s
  subst hs
  exact (AtIx_some ..).2 ⟨h0, h1, hK⟩

theorem once_ok {w : World} {a0 a1 : Int} {s : SliceV} (h0 : 0 ≤ a0 ∧ a0 ≤ 255) (h1 : 0 ≤ a1 ∧ a1 ≤ 255) (hs : WIn w s) : c_law19_PoolOnce a0 a1 s w fun r w' => r = true ∧ Ext w w' := by
  apply ok_law19_PoolOnce
  unfold s_law19_PoolOnce
  by_cases hlen : (s.len : Int) > 100
  · simp only [hlen, decide_true, cond_true]
    exact cm_law19_awake (awake19_ok w) fun r w' h => h
  · simp only [hlen, decide_false, cond_false]
    have hm : Int.tmod a1 30 = a1 % 30 := Int.tmod_eq_emod_of_nonneg h1.1
    have m0 : 0 ≤ a1 % 30 ∧ a1 % 30 < 30 := by omega
    have e1 : IntKind.i64.wrap a0 = a0 := by rw [wrap_i64 (by omega) (by omega)]
    have e2 : IntKind.i64.wrap (a1 % 30) = a1 % 30 := by rw [wrap_i64 (by omega) (by omega)]
    have e3 : IntKind.i64.wrap (2000 + a0) = 2000 + a0 := by rw [wrap_i64 (by omega) (by omega)]
    have e4 : IntKind.i64.wrap (2000 + a0 + a1 % 30) = 2000 + a0 + a1 % 30 := by rw [wrap_i64 (by omega) (by omega)]
    have e5 : IntKind.i64.wrap (a1 % 30 + 1) = a1 % 30 + 1 := by rw [wrap_i64 (by omega) (by omega)]
    simp -zeta only [hm, e1, e2, e3, e4, e5]
    refine Al_e fun b w1 r1 z0 z1 f1 => ⟨by omega, ?_⟩
    refine cm_pool_New (new_ok r1 host2 (by omega) (by omega) (by omega)) ?_
    rintro _ _ w2 ⟨f2, rfl, p, a, g, c, pad, rfl, hp, ha, hg, n1, n2, l1, l2, l3⟩
    simp only [Option.isNone_some, cond_false, bne_self_eq_false]
    refine Al_map fun w3 m3 z3 f3 => ?_
    have hp3 := hp.ext f3
    have ha3 := ha.ext f3
    have hs3 := ((hs.ext f1).ext f2).ext f3
    have x3 := (f1.trans f2).trans f3
    have lp := hp.lt
    have la := ha.lt
    have lg := hg.lt
    generalize hsd : w2.heap.size = sd at *
    have hsw : ∀ k, k < s.len → ∃ x a, 0 ≤ x ∧ x ≤ 65535 ∧ s.a = some a ∧ w3.cell? (a.add k) = some (.int .u16 x) ∧ a.block < w.heap.size := by
      intro k hk
      obtain ⟨x, a', h1, h2, h3, h4⟩ := hs.2 k hk
      exact ⟨x, a', h1, h2, h3, cell_ext h4 x3, by have := cell_lt h4; rwa [add_block] at this⟩
    have ez1 := f1.size
    refine LoopP_inv (fun st W => ∃ (j : Nat) (S : List Int), j ≤ s.len ∧ st.1 = (j : Int) ∧ MapB encP W sd S ∧ MapB encO W g (S.map fun q => (6, 16777216, q)) ∧ S.Nodup ∧ (∀ q ∈ S, 2000 + a0 ≤ q ∧ q ≤ 2000 + a0 + a1 % 30) ∧ Fr8 w3 W (fun b => b = g ∨ b = sd)) (fun st _ => ((s.len : Int) - st.1).toNat) ⟨0, [], by omega, rfl, m3 _ _, hg.ext f3, List.nodup_nil, by simp, Fr8.refl _ _⟩ ?_
    rintro ⟨x, ⟨⟩⟩ W ⟨j, S, hj, hx, hm', hg', hnd, hin, hf⟩ next hnext
    simp only at hx
    have hpW : Row W p _ := hp3.fr hf (by omega)
    have haW : Row W a _ := ha3.fr hf (by omega)
    have zW := hf.size
    by_cases hlt : x < (s.len : Int)
    · simp only [hlt, decide_true, cond_true]
      obtain ⟨xv, sa, v1, v2, v3, v4, v5⟩ := hsw j (by omega)
      have v4 := cell_fr v4 hf (by rw [add_block]; omega)
      refine AtIx_of v3 (by omega) hlt ?_
      rw [hx, Int.toNat_natCast, Nat.mul_one]
      have ev : IntKind.i64.wrap xv = xv := by rw [wrap_i64 (by omega) (by omega)]
      have ej : IntKind.i64.wrap ((j : Int) + 1) = ((j + 1 : Nat) : Int) := by rw [wrap_i64 (by have := hs.1; omega) (by have := hs.1; omega)]; omega
      simp only [Ld_eq, LdV_some, dec_int, v4, ev, ej]
      refine cm_pool_Pool_Take (take_ok hpW haW hg' n1 n2 (.inl rfl) ⟨by omega, by omega⟩ ⟨by omega, by omega⟩ (by omega) (by omega)) ?_
      rintro x y z e w4 ⟨f4, h⟩
      have z4 := f4.size
      have hm4 := hm'.fr f4 (by omega)
      refine Al_e fun o w5 r5 e5 z5 f5 => StN_full r5 rfl rfl fun w6 r6 f6 z6 => ?_
      have hm6 : MapB encP w6 sd S := (hm4.ext f5).fr (f6 (· = o) rfl) (by have := hm4.lt; omega)
      have F6 : Fr8 w3 w6 (fun b => b = g ∨ b = sd) := by
        have g1 : Fr8 W w4 (fun b => b = g ∨ b = sd) := f4.mono fun b h => .inl h
        exact (hf.trans ((g1.ext f5).trans (f6 (· = o) rfl) (fun b hb e => by have : b = o := e; omega)) fun _ _ e => e)
      simp only [List.getElem?_cons_zero, List.getElem?_cons_succ, LdV_some, dec_int, add_mk, Nat.zero_add, r6.cell]
      rcases h with ⟨q, hq, rfl, rfl, hz, rfl, h⟩ | ⟨hq, rfl, h⟩
      · obtain rfl : q = z := hz.symm
        have hgood := Gp.Pool.wants_good (lo := 2000 + a0) (hi := 2000 + a0 + a1 % 30) (want := xv) (by omega) (by omega) (by omega) (by omega)
        rw [free_map] at hq
        obtain ⟨t1, t2, t3, t4⟩ := Gp.Pool.take_some hgood hq
        have hg6 : MapB encO w6 g ((S ++ [q]).map fun q => (6, 16777216, q)) := by
          rw [List.map_append]
          exact (h.ext f5).fr (f6 (· = o) rfl) (by have := h.lt; omega)
        have e0 : ((0 : Int) != 0) = false := rfl
        simp only [e0, cond_false]
        refine MapGet_B hm6 eqP q (keyP_ok q) ?_
        have b1 : ¬ (q < 2000 + a0) := by omega
        have b2 : ¬ (q > 2000 + a0 + a1 % 30) := by omega
        simp only [t1, b1, b2, decide_false, cond_false]
        refine ⟨by omega, ?_⟩
        have hset : MapSet Try.prog 3 (some sd) (.int .i64 q) (.bool true) w6 fun w' => next (((j + 1 : Nat) : Int), ()) w' := by
          refine MapSet_B hm6 eqP q (keyP_ok q) t1 fun w7 m7 f7 z7 => ?_
          refine hnext _ _ ⟨j + 1, S ++ [q], by omega, rfl, m7, hg6.fr f7 (by omega), ?_, ?_, F6.trans f7 (fun b _ e => .inr e)⟩ (by simp only; omega)
          · refine List.nodup_append.2 ⟨hnd, by simp, fun a ha b hb e => ?_⟩
            simp only [List.mem_singleton] at hb
            subst hb; subst e
            exact t1 ha
          · intro y hy
            rcases List.mem_append.1 hy with hy | hy
            · exact hin y hy
            · simp only [List.mem_singleton] at hy
              omega
        refine LoopP_inv (fun st W' => W' = w6 ∧ 2000 + a0 ≤ st.1) (fun st _ => (2000 + a0 + a1 % 30 + 1 - st.1).toNat) ⟨rfl, by simp⟩ ?_
        rintro ⟨pt, ⟨⟩⟩ W' ⟨hw', hpt⟩ next' hnext'
        subst hw'
        simp only at hpt
        refine ⟨by omega, ?_⟩
        by_cases hpl : pt ≤ 2000 + a0 + a1 % 30
        · have ep : IntKind.i64.wrap (pt + 1) = pt + 1 := by rw [wrap_i64 (by omega) (by omega)]
          simp only [hpl, decide_true, cond_true, List.getElem?_cons_zero, List.getElem?_cons_succ, LdV_some, dec_int, r6.cell, ep]
          refine ⟨by omega, by omega, ?_⟩
          rw [Int.tmod_eq_emod_of_nonneg (show 0 ≤ q by omega), Int.tmod_eq_emod_of_nonneg (show 0 ≤ xv by omega), Int.tmod_eq_emod_of_nonneg (show 0 ≤ pt by omega)]
          have hn := hnext' (pt + 1, ()) W' ⟨rfl, by simp only; omega⟩ (by simp only; omega)
          by_cases hpar : q % 2 = xv % 2
          · rw [hpar]
            simp only [bne_self_eq_false, cond_false]
            exact hset
          · rw [show (q % 2 != xv % 2) = true by simpa using hpar, cond_true]
            refine ⟨by omega, by omega, ?_⟩
            by_cases hp2 : pt % 2 = xv % 2
            · rw [hp2]
              simp only [beq_self_eq_true, cond_true]
              refine MapGet_B hm6 eqP pt (keyP_ok pt) ?_
              rw [decide_eq_true (t4 hpar pt hpt hpl hp2)]
              simpa only [Bool.not_true, cond_false] using hn
            · rw [show (pt % 2 == xv % 2) = false by simpa using hp2, cond_false]
              exact hn
        · simp only [hpl, decide_false, cond_false, List.getElem?_cons_zero, List.getElem?_cons_succ, LdV_some, dec_int, r6.cell]
          exact hset
      · have hgood := Gp.Pool.wants_good (lo := 2000 + a0) (hi := 2000 + a0 + a1 % 30) (want := xv) (by omega) (by omega) (by omega) (by omega)
        rw [free_map] at hq
        have hall := Gp.Pool.take_none hgood hq
        have hl := used_len (n := (a1 % 30).toNat) hnd (fun x hx => by have := hin x hx; omega) (fun y h1 h2 => hall y h1 (by omega))
        have e12 : ((12 : Int) != 0) = true := rfl
        have e12' : ((12 : Int) != 12) = false := rfl
        simp only [e12, e12', cond_false, cond_true]
        refine MapLen_B hm6 ⟨by omega, ?_⟩
        rw [hl, show (((((a1 % 30).toNat + 1 : Nat) : Int)) != a1 % 30 + 1) = false by simp; omega, cond_false]
        exact hnext _ _ ⟨j + 1, S, by omega, rfl, hm6, (h.ext f5).fr (f6 (· = o) rfl) (by have := h.lt; omega), hnd, hin, F6⟩ (by simp only; omega)
    · simp only [hlt, decide_false, cond_false]
      refine cm_pool_Pool_Used (used_ok hpW hg') ?_
      rintro _ w4 ⟨rfl, hw⟩
      subst hw
      refine MapLen_B hm' ?_
      simp only [List.length_map, beq_self_eq_true, cond_true]
      refine cm_law19_awake (awake19_ok _) ?_
      rintro r w5 ⟨h5, f5⟩
      exact ⟨h5, (x3.new hf (fun b hb e => by omega)).trans f5⟩

end Go.Proofs
