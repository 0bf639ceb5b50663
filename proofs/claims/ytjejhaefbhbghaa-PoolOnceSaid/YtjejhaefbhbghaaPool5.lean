import Derived.Test.YtjejhaefbhbghaaPool4
/- Take, of a pool with one address. -/
namespace Go.Proofs
open Gp
open Gp.Pool (stepL stepL_get alike cls oth wantsL)
set_option maxRecDepth 100000

/-- The first port that is not given. -/
def freeP (n ad : Int) (G : List O3) (xs : List Int) : Option Int := xs.find? fun q => decide ((n, ad, q) ∉ G)

theorem busy_fr {w w' : World} {S : Nat → Prop} (h : Fr8 w w' S) (l : Nat) : Fr8 (busyW w l) (busyW w' l) S := by
  refine ⟨by simpa [busyW] using h.size, fun b hb hn => ?_, h.io⟩
  have := h.same b (by simpa [busyW] using hb) hn
  simp only [busyW, Array.getElem?_modify, this]

theorem freeP_at {n ad : Int} {G : List O3} {xs : List Int} {i : Nat} {q : Int} (hq : ∀ x ∈ xs.take i, (n, ad, x) ∈ G) (hx : xs[i]? = some q) (hn : (n, ad, q) ∉ G) : freeP n ad G xs = some q := by
  obtain ⟨hlt, rfl⟩ := List.getElem?_eq_some_iff.1 hx
  unfold freeP
  rw [List.find?_eq_some_iff_append]
  refine ⟨by simpa using hn, xs.take i, xs.drop (i + 1), by rw [← List.drop_eq_getElem_cons hlt, List.take_append_drop], fun x hx => ?_⟩
  simpa using hq x hx

theorem take_ok {w : World} {p a g c : Nat} {pad : List Value} {lo hi ad want n : Int} {G : List O3} (hp : Row w p (poolV lo hi ⟨some ⟨a, 0, none⟩, 1, c⟩ g)) (ha : Row w a (.int .i64 ad :: pad)) (hg : MapB encO w g G) (hpg : p ≠ g) (hag : a ≠ g)
    (hn : n = 6 ∨ n = 17) (h1 : IntP lo) (h2 : IntP hi) (h3 : 0 ≤ want) (h4 : want ≤ 65535) :
    c_pool_Pool_Take (some ⟨p, 0, none⟩) n want 0 w fun x y z e w' => Fr8 w w' (· = g) ∧
      ((∃ q, freeP n ad G (wantsL lo hi want (cls want) (oth want)) = some q ∧ x = n ∧ y = ad ∧ z = q ∧ e = 0 ∧ MapB encO w' g (G ++ [(n, ad, q)])) ∨
        (freeP n ad G (wantsL lo hi want (cls want) (oth want)) = none ∧ e = 12 ∧ MapB encO w' g G)) := by
  apply ok_pool_Pool_Take
  unfold s_pool_Pool_Take
  refine ⟨rfl, Al_e fun b6 w1 r6 e6 z6 f1 => Al_e fun b8 w2 r8 e8 z8 f2 => Al_e fun b10 w3 r10 e10 z10 f3 => ?_⟩
  have x3 := (f1.trans f2).trans f3
  have r6 := (r6.ext f2).ext f3
  have r8 := r8.ext f3
  have hp3 := hp.ext x3
  have ha3 := ha.ext x3
  have hg3 := hg.ext x3
  have lg := hg.lt
  have lp := hp.lt
  have la := ha.lt
  simp only [Ld_eq, List.getElem?_cons_zero, LdV_some, dec_ptr, add_mk, Nat.zero_add, Nat.add_zero, r6.cell]
  refine cm_pool_Pool_ready (ready_ok hp3) ?_
  rintro _ w' ⟨rfl, hw⟩
  subst hw
  simp only [Bool.not_true, cond_false]
  refine cm_pool_proto (proto_ok n _) ?_
  rintro _ w' ⟨rfl, hw⟩
  subst hw
  have hn' : (n = 1 ∨ n = 6 ∨ n = 17) := .inr hn
  simp only [hn', decide_true, Bool.not_true, cond_false, ex_some, List.getElem?_cons_zero, List.getElem?_cons_succ, LdV_some, dec_slice, dec_ptr, add_mk, Nat.zero_add, r6.cell, hp3.cell]
  refine ⟨by omega, by omega, ?_⟩
  refine LoopP_inv (fun st W => (st = ((0, ()), []) ∧ W = w') ∨ (st.1.1 = 1 ∧ Fr8 w' W (fun _ => False) ∧ freeP n ad G (wantsL lo hi want (cls want) (oth want)) = none ∧ (∀ d ∈ st.2, w'.heap.size ≤ d ∧ W.heap[d]? = some (.deferred (some []))) ∧ st.2.Nodup))
    (fun st _ => (1 - st.1.1).toNat) (.inl ⟨rfl, rfl⟩) ?_
  rintro st W (⟨rfl, rfl⟩ | ⟨e1, f4, hnone, hd, nd⟩) next hnext
  · have hlt : ((0 : Int) < ((1 : Nat) : Int)) := by omega
    have x3d := x3.trans (Ext.drew W)
    simp only [hlt, decide_true, cond_true, cond_true, ex_some, List.getElem?_cons_zero, List.getElem?_cons_succ, LdV_some, dec_slice, dec_ptr, AtIx_some, add_mk, Nat.zero_add, r6.drew.cell, hp3.drew.cell]
    refine ⟨by omega, ?_⟩
    have hi0 : (Int.tmod (IntKind.i64.wrap ((Int.tmod (IntKind.i64.wrap ((Int.tmod 0 ((1 : Nat) : Int)) + ((1 : Nat) : Int))) ((1 : Nat) : Int)) + 0)) ((1 : Nat) : Int)) = 0 := by kernel_rfl
    rw [hi0]
    refine ⟨by omega, by omega, ?_⟩
    have hd := Ext.drew W
    have ha3d := ha3.ext hd
    have hp3d := hp3.ext hd
    have r6d := r6.ext hd
    simp only [Int.toNat_zero, Nat.zero_mul, List.getElem?_cons_zero, LdV_some, dec_int, ha3d.cell]
    refine Al_e fun b40 w4 r40 e40 z40 x4 => ?_
    have ha4 := ha3d.ext x4
    have hp4 := hp3d.ext x4
    have r64 := r6d.ext x4
    have sd := hd.size
    have l6 := r6.lt
    have l8 := r8.lt
    have l10 := r10.lt
    simp only [ha4.cell, hp4.cell, r64.cell, true_and, List.getElem?_cons_zero, List.getElem?_cons_succ, add_mk, Nat.zero_add, Nat.add_zero]
    refine StN_full r40 rfl rfl fun w5 r40 f5 z5 => ?_
    have x5 : Ext W w5 := (hd.trans x4).new (f5 (· = b40) rfl) fun x hx e => by omega
    have r65 := r6.ext x5
    have hp5 := hp3.ext x5
    simp only [List.getElem?_cons_zero, LdV_some, dec_ptr, r65.cell]
    refine cm_pool_Pool_Wants (wants_ok hp5 hn h1 h2 h3 h4) ?_
    rintro v w6 ⟨x6, C, hit, hC⟩
    have r40 := r40.ext x6
    have s5 := x5.size
    have s6 := x6.size
    have s1 := f1.size
    have s2 := f2.size
    have x56 := x5.trans x6
    have l40 : W.heap.size ≤ b40 := by omega
    have l40' : b40 < w5.heap.size := by omega
    generalize hxs : wantsL lo hi want (cls want) (oth want) = xs at hit hnext ⊢
    refine rng_iter2 hit (fun i W' => ∃ z : Int, Row W' b40 [.int .i64 n, .int .i64 ad, .int .i64 z] ∧ Fr8 w6 W' (· = b40) ∧ ∀ q ∈ xs.take i, (n, ad, q) ∈ G)
      (fun e W' => e = .ret ∧ ∃ q, freeP n ad G xs = some q ∧ Row W' b8 [.int .i64 n, .int .i64 ad, .int .i64 q] ∧ Row W' b10 [.int .i64 0] ∧ MapB encO W' g (G ++ [(n, ad, q)]) ∧ Fr8 w6 W' (fun b => b = b40 ∨ b = g ∨ b = b8 ∨ b = b10)) (by simp) ?_ ?_ ?_ ?_ ?_ ?_ ?_ ?_ ?_
    · exact fun W' hx _ => ⟨0, r40.ext hx, hx _, by simp⟩
    · rintro i W' ⟨z, _, hf, _⟩
      exact hC W' _ hf (fun b h1 h2 e => by omega) (by omega)
    · rintro i W' W'' ⟨z, hr, hf, hq⟩ hf'
      have lq : lAt none w6 = w6.heap.size + 1 := rfl
      rw [lq] at hf'
      exact ⟨z, hr.fr hf' (by omega), hf.trans hf' fun x hx e => by omega, hq⟩
    · rintro e W' W'' ⟨he, q, h1, h2, h3, h4, h5⟩ hf'
      have lq : lAt none w6 = w6.heap.size + 1 := rfl
      rw [lq] at hf'
      exact ⟨he, q, h1, h2.fr hf' (by omega), h3.fr hf' (by omega), h4.fr hf' (by omega), h5.trans hf' fun x hx e => by omega⟩
    · exact fun e W' hJ => .inl hJ.1
    · rintro i ⟨q, ⟨⟩⟩ W' Kb hx ⟨z, hr, hf, hq⟩ hlt2 hn2 hj2
      rw [yP_get] at hx
      obtain ⟨q', hq', he⟩ := Option.map_eq_some_iff.1 hx
      have hqe : q' = q := congrArg Prod.fst he
      subst hqe
      have lq : lAt none w6 = w6.heap.size + 1 := rfl
      rw [lq] at hlt2 hn2 hj2 ⊢
      simp only []
      refine St_row hr rfl (by simp) fun W2 r2 f2' z2 => ?_
      refine ⟨(f2' (· = b40) rfl).same _ hlt2 (by omega), ?_⟩
      simp only [List.set_cons_succ, List.set_cons_zero] at r2
      have fb : Fr8 w6 (busyW W2 (w6.heap.size + 1)) (· = b40) := (hf.trans (f2' (· = b40) rfl) fun _ _ e => e).trans (Fr8.busyW W2 _) fun x hx e => by omega
      have fc : Fr8 (busyW W' (w6.heap.size + 1)) (busyW W2 (w6.heap.size + 1)) (· = b40) := busy_fr (f2' (· = b40) rfl) _
      have rb40 : Row (busyW W2 (w6.heap.size + 1)) b40 _ := r2.fr (Fr8.busyW W2 _) (by omega)
      generalize busyW W2 (w6.heap.size + 1) = W3 at fb fc rb40 ⊢
      have k6 := (r6.ext x56).fr fb (by omega)
      have k8 := (r8.ext x56).fr fb (by omega)
      have k10 := (r10.ext x56).fr fb (by omega)
      have kp := (hp3.ext x56).fr fb (by omega)
      have kg := (hg3.ext x56).fr fb (by omega)
      have fd : Fr8 W3 W3.drew (· = b40) := Fr8.drew _ _
      simp only [ex_some, List.getElem?_cons_zero, List.getElem?_cons_succ, LdV_some, dec_int, dec_ptr, dec_map, add_mk, Nat.zero_add, k6.drew.cell, kp.drew.cell, rb40.drew.cell]
      refine MapGet_B (kg.ext (Ext.drew W3)) eqO (n, ad, q') (keyO_ok _) ?_
      by_cases hm : (n, ad, q') ∈ G
      · simp only [hm, decide_true, cond_true]
        refine hn2 _ (· = b40) (fc.trans fd fun _ _ e => e) (fun b e => by omega) ⟨q', rb40.drew, fb.trans fd fun _ _ e => e, fun x hx' => ?_⟩
        rw [List.take_add_one, hq'] at hx'
        rcases List.mem_append.1 hx' with hx' | hx'
        · exact hq x hx'
        · have : x = q' := by simpa using hx'
          rw [this]; exact hm
      · simp only [hm, decide_false, cond_false]
        simp only [ex_some, List.getElem?_cons_zero, List.getElem?_cons_succ, LdV_some, dec_int, dec_ptr, dec_map, add_mk, Nat.zero_add, k6.drew.drew.cell, kp.drew.drew.cell, rb40.drew.drew.cell]
        refine MapSet_B ((kg.ext (Ext.drew W3)).ext (Ext.drew _)) eqO (n, ad, q') (keyO_ok _) hm fun W4 m4 f4 z4 => ?_
        have q40 := rb40.drew.drew.fr f4 (by omega)
        simp only [List.getElem?_cons_zero, List.getElem?_cons_succ, LdV_some, dec_int, q40.cell]
        refine StN_full (k8.drew.drew.fr f4 (by omega)) rfl rfl fun W5 q8 g8 z8' => ?_
        have j10 := (k10.drew.drew.fr f4 (by omega)).fr (g8 (· = b8) rfl) (by omega)
        refine St_row j10 rfl (by simp) fun W6 q10 g10 z10' => ?_
        simp only [List.set_cons_zero] at q10
        have ft : Fr8 W3 W6 (fun b => b = b40 ∨ b = g ∨ b = b8 ∨ b = b10) :=
          ((((Fr8.drew W3 _).trans (Fr8.drew _ _) fun _ _ e => e).trans (f4.mono (S' := fun b => b = b40 ∨ b = g ∨ b = b8 ∨ b = b10) fun b e => by omega) fun _ _ e => e).trans ((g8 (· = b8) rfl).mono (S' := fun b => b = b40 ∨ b = g ∨ b = b8 ∨ b = b10) fun b e => by omega) fun _ _ e => e).trans
            ((g10 (· = b10) rfl).mono (S' := fun b => b = b40 ∨ b = g ∨ b = b8 ∨ b = b10) fun b e => by omega) fun _ _ e => e
        refine hj2 .ret W6 (fun b => b = b40 ∨ b = g ∨ b = b8 ∨ b = b10) ((fc.mono fun b e => .inl e).trans ft fun _ _ e => e) (fun b e => by omega) ⟨rfl, q', freeP_at hq hq' hm, q8.fr (g10 (· = b10) rfl) (by omega), q10, ?_, (fb.mono fun b e => .inl e).trans ft fun _ _ e => e⟩
        exact (m4.fr (g8 (· = b8) rfl) (by omega)).fr (g10 (· = b10) rfl) (by omega)
    · rintro W' ⟨z, hr, hf, hq⟩ hm
      have hm := hm rfl
      refine hnext _ _ (.inr ⟨by rw [wrap_i64 (by omega) (by omega)]; rfl, ?_, ?_, ?_, by simp⟩) ?_
      · exact (x56.new hf fun b hb e => by omega) _
      · unfold freeP
        rw [List.find?_eq_none]
        intro q hq'
        have := hq q (by rw [List.take_of_length_le (by simp [yP])]; exact hq')
        simpa using this
      · intro d hd
        simp only [List.mem_singleton] at hd
        subst hd
        exact ⟨by omega, hm⟩
      · simp only; rw [wrap_i64 (by omega) (by omega)]; omega
    · rintro W' ⟨_, q, h1, h2, h3, h4, h5⟩ hm
      have hm := hm rfl
      refine closeP_ok (n := w6.heap.size) _ W' (fun d hd => ?_) (by simp) fun w7 f7 z7 => ?_
      · simp only [List.mem_singleton] at hd
        subst hd
        exact ⟨Nat.le_refl _, hm⟩
      · have g8 := h2.fr f7 (by omega)
        have g10 := h3.fr f7 (by omega)
        simp only [List.getElem?_cons_zero, List.getElem?_cons_succ, LdV_some, dec_int, g8.cell, g10.cell]
        refine ⟨?_, .inl ⟨q, h1, by trivial, by trivial, by trivial, by trivial, h4.fr f7 (by omega)⟩⟩
        have ha : Fr8 w w7 (fun b => b = b40 ∨ b = g ∨ b = b8 ∨ b = b10 ∨ w6.heap.size ≤ b) := ((x3.trans x56).fr (h5.mono (S' := fun b => b = b40 ∨ b = g ∨ b = b8 ∨ b = b10 ∨ w6.heap.size ≤ b) fun b e => by omega)).trans (f7.mono (S' := fun b => b = b40 ∨ b = g ∨ b = b8 ∨ b = b10 ∨ w6.heap.size ≤ b) fun b e => by omega) fun _ _ e => e
        exact ⟨ha.size, fun b hb hne => ha.same b hb (by omega), ha.io⟩
    · rintro id W' ⟨h, _⟩
      cases h
  · have hlt : ¬ (st.1.1 < ((1 : Nat) : Int)) := by omega
    have q8 := r8.fr f4 (by simp)
    have q10 := r10.fr f4 (by simp)
    simp only [hlt, decide_false, cond_false]
    refine StN_full q8 rfl rfl fun w5 r5 f5 z5 => ?_
    refine St_row (q10.fr (f5 (· = b8) rfl) (by omega)) rfl (by simp) fun w6 r6' f6 z6' => ?_
    have r5 := r5.fr (f6 (· = b10) rfl) (by omega)
    simp only [List.set_cons_zero] at r6'
    have fz : Fr8 w' w6 (fun b => b = b8 ∨ b = b10) := ((f4.mono (S' := fun b => b = b8 ∨ b = b10) fun _ e => e.elim).trans ((f5 (· = b8) rfl).mono (S' := fun b => b = b8 ∨ b = b10) fun b e => .inl e) fun _ _ e => e).trans ((f6 (· = b10) rfl).mono (S' := fun b => b = b8 ∨ b = b10) fun b e => .inr e) fun _ _ e => e
    have lb8 := r8.lt
    have lb10 := r10.lt
    refine closeP_ok (n := w'.heap.size) st.2 w6 (fun d hdd => ⟨(hd d hdd).1, ?_⟩) nd fun w7 f7 z7 => ?_
    · have hdl : d < W.heap.size := (Array.getElem?_eq_some_iff.1 (hd d hdd).2).1
      have := (hd d hdd).1
      rw [(f6 (· = b10) rfl).same d (by omega) (by omega), (f5 (· = b8) rfl).same d hdl (by omega)]
      exact (hd d hdd).2
    · have g5 := r5.fr f7 (by omega)
      have g6 := r6'.fr f7 (by omega)
      simp only [List.getElem?_cons_zero, List.getElem?_cons_succ, LdV_some, dec_int, g5.cell, g6.cell]
      have hgW : Fr8 w' w7 (fun b => b = b8 ∨ b = b10) := fz.trans f7 fun x hx e => by omega
      have s1 := f1.size
      have s2 := f2.size
      exact ⟨(x3.new hgW fun b hb e => by omega) _, .inr ⟨hnone, by trivial, hg3.fr hgW (by omega)⟩⟩

end Go.Proofs
