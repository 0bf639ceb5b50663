import Derived.Test.YtmcdmhegjhcjhaaGreatRn16
/- A machine that runs closed code over named blocks: it is sound. -/
namespace Gp.Rn
open Go Gp

section
variable {w0 : World} {P : Program} {A : Nat → Option Ann} {prev : RunT}

theorem lpC_ok (hp : CodeOk P w0 prev) {nt : Nat} {a : Code} {r r' : Option Nat} {an : Ann} {ae : AE} {ads : List Nat} {Γ : LCx} {s : St} {k : KC} {ρ : Nm} {w : World} {env : Env} {ds : List Nat} {K : Exit → Env → List Nat → World → Prop}
    (h : lpC prev nt a r an ae ads Γ s k = true) (hr : Rel w0 ρ s w) (he : ER ρ ae env) (hd : DR ρ ads ds) (hg : GR P ρ Γ) (hrr : RR ρ r r') (hK : KCk w0 ρ k K) : den P nt (.loop a) r' an env ds w K := by
  unfold lpC at h
  split at h
  · rename_i st x
    split at h
    · rename_i l hl
      have hb := he.without (writes a)
      unfold den
      dsimp only
      generalize 1000000 = N at h
      cases hra : hasRng a with
      | true =>
        rw [cond_true]
        refine getST_ok hl he fun s0 hs0 => ?_
        refine ⟨fun n S W => ∃ l ads σ ρ1, lpIt prev nt a r x st (AE.without (writes a) ae) Γ k n l ads σ = true ∧ Le ρ ρ1 ∧ Rel w0 ρ1 σ W ∧ PE ρ1 l (encS st S.1) ∧ DR ρ1 ads S.2, ⟨N, l, ads, s, ρ, h, Le.refl ρ, hr, hs0, hd⟩, ?_⟩
        rintro n ⟨S, D⟩ W ⟨l1, ads1, σ1, ρ1, h1, l2, r1, p1, d1⟩
        cases n with
        | zero => cases h1
        | succ n =>
          refine lpIt_inv hp hg hrr hb hK h1 l2 r1 p1 d1 (fun s' ds' w' => ∃ m, m < n + 1 ∧ ∃ l ads σ ρ1, lpIt prev nt a r x st (AE.without (writes a) ae) Γ k m l ads σ = true ∧ Le ρ ρ1 ∧ Rel w0 ρ1 σ w' ∧ PE ρ1 l (encS st s') ∧ DR ρ1 ads ds') fun l' ads' σ' ρ2 s' ds' w' q1 q2 q3 q4 q5 => ?_
          rw [hra] at q5
          exact ⟨n, Nat.lt_succ_self n, l', ads', σ', ρ2, q1, q2, q3, q4, q5⟩
      | false =>
        rw [cond_false]
        refine getST_ok hl he fun s0 hs0 => ?_
        refine ⟨fun n S W => ∃ l ads σ ρ1, lpIt prev nt a r x st (AE.without (writes a) ae) Γ k n l ads σ = true ∧ Le ρ ρ1 ∧ Rel w0 ρ1 σ W ∧ PE ρ1 l (encS st S) ∧ DR ρ1 ads ds, ⟨N, l, ads, s, ρ, h, Le.refl ρ, hr, hs0, hd⟩, ?_⟩
        rintro n S W ⟨l1, ads1, σ1, ρ1, h1, l2, r1, p1, d1⟩
        cases n with
        | zero => cases h1
        | succ n =>
          refine lpIt_inv hp hg hrr hb hK h1 l2 r1 p1 d1 (fun s' ds' w' => ∃ m, m < n + 1 ∧ ∃ l ads σ ρ1, lpIt prev nt a r x st (AE.without (writes a) ae) Γ k m l ads σ = true ∧ Le ρ ρ1 ∧ Rel w0 ρ1 σ w' ∧ PE ρ1 l (encS st s') ∧ DR ρ1 ads ds) fun l' ads' σ' ρ2 s' ds' w' q1 q2 q3 q4 q5 => ?_
          rw [hra] at q5
          exact ⟨n, Nat.lt_succ_self n, l', ads', σ', ρ2, q1, q2, q3, q4, q5⟩
    · cases h
  · cases h

/-! ### Ranges over functions -/
theorem findK_of {id : Nat} {f : Nat → World → Prop} {w : World} : ∀ {l : List Nat}, memN id l = true → f id w → findK id (l.map fun i => (i, f i)) w
  | [], h, _ => by cases h
  | i :: l, h, hf => by
    rw [List.map_cons]
    unfold findK
    unfold memN at h
    by_cases hi : i = id
    · rw [show Nat.beq i id = true by rw [hi]; exact Nat.beq_refl _, cond_true, hi]; exact hf
    · have hb : Nat.beq i id = false := by
        cases hb : Nat.beq i id with
        | false => rfl
        | true => exact absurd (Nat.eq_of_beq_eq_true hb) hi
      rw [hb, cond_false] at h
      rw [hb, cond_false]
      exact findK_of h hf

theorem rngC_ok (hP : POk P) (hp : CodeOk P w0 prev) {nt : Nat} {g : Operand} {ps : List Nat} {assign body : Code} {ks : List Shape} {x y : Ann} {r r' : Option Nat} {ae : AE} {ads : List Nat} {Γ : LCx} {m : Option Nat} {s s0 : St} {k : KC} {ρ : Nm} {w : World} {env : Env} {ds : List Nat} {K : Exit → Env → List Nat → World → Prop}
    (h : rngC P A prev nt g ps assign body ks x y ae ads Γ m s k = true)
    (hm : (m = none ∧ s0 = s ∧ r' ≠ none) ∨ ∃ i, m = some i ∧ r' = none ∧ s0.h.get i = none ∧ s.h.get i = some .mark ∧ ∀ j, j ≠ i → s.h.get j = s0.h.get j)
    (hloop : ∀ l₀, r' = some l₀ → ∃ lp, w.heap[l₀]? = some (.loop lp)) (hr : Rel w0 ρ s0 w) (he : ER ρ ae env) (hd : DR ρ ads ds) (hg : GR P ρ Γ) (hK : KCk w0 ρ k K) :
    RngP P r' ks (ev env g) w
      (fun l x' W Kb => den P nt assign (some l) x (encP ps (encR ks x') ++ env) [] W fun e env1 _ W1 => match e with
        | .normal => W1.heap[l]? = W.heap[l]? ∧ den P nt body (some l) y env1 [] (busyW W1 l) fun e _ _ W2 => Kb e W2
        | _ => False)
      (fun w' => K .normal env (cond r'.isNone (w.heap.size :: ds) ds) w') (fun w' => K .ret env (cond r'.isNone (w.heap.size :: ds) ds) w')
      ((exitsOf body).map fun id => (id, fun w' => K (.exit id) env (cond r'.isNone (w.heap.size :: ds) ds) w')) := by
  unfold rngC at h
  split at h
  · rename_i f first cap hv
    obtain ⟨v, hv1, hv2⟩ := evA_ok he hv
    have hev : ev env g = v := by unfold ev; rw [hv1]; rfl
    cases hv2 with
    | @fn _ _ first' _ cap' hf hc =>
    refine ⟨hloop, ?_⟩
    rw [hev]
    obtain ⟨hb, h⟩ := cond_ok h
    refine ⟨hb, fun l L w1 cx => ?_⟩
    obtain ⟨i, s2, h, q0, q1, q2⟩ := newB_ok h
    -- the world with the mark
    have hold : Ext w w1 := fun S => ⟨by have := cx.size; have := cx.at_; split at this <;> omega, fun b hb _ => cx.old b hb, cx.io⟩
    have hlo : LOk ⟨l, 0, L⟩ := ⟨cx.frame, cx.set, cx.busy, cx.isLoop⟩
    have hsz : w.heap.size ≤ l ∧ l < w1.heap.size := by have := cx.size; have := cx.at_; split at this <;> omega
    have hez := hr.ext.size
    have hbr : ∀ j b z, s0.h.get j = some b → ρ j = some z → BR ρ w1 z b := fun j b z g1 g2 => (hr.br j b z g1 g2).same (cx.old _ (hr.new j z g2).2)
    have step : ∃ ρ1, Le ρ ρ1 ∧ Rel w0 ρ1 s w1 ∧ (∀ j b z, s.h.get j = some b → live b → ρ1 j = some z → z.b ≠ l) ∧ DR ρ1 (m.toList ++ ads) (cond r'.isNone (w.heap.size :: ds) ds) := by
      rcases hm with ⟨rfl, rfl, hn⟩ | ⟨j, rfl, rfl, g0, g1, g2⟩
      · refine ⟨ρ, Le.refl ρ, ⟨hr.dom, hr.fresh, hbr, fun j z g => ⟨(hr.new j z g).1, by have := (hr.new j z g).2; omega⟩, hr.inj, hr.ext.trans hold⟩, fun j b z g1 g2 g3 => by have := (hr.new j z g3).2; omega, ?_⟩
        cases r' with
        | none => exact absurd rfl hn
        | some _ => exact hd
      · have hl1 : l = w.heap.size + 1 := cx.at_
        obtain ⟨a1, a2⟩ := hr.add (w' := w1) (x := ⟨w.heap.size, 0, fun _ _ _ => False⟩) g0 g1 g2 ⟨hez, by have := cx.size; simp only; omega⟩ (cx.marks rfl) hbr (fun j b z g1 g2 g3 => by have := (hr.new j z g3).2; simp only; omega) hold.size (hr.ext.trans hold)
        refine ⟨_, a2, a1, fun k b z g3 g4 g5 => ?_, ⟨⟨_, upd_self ρ j _, rfl⟩, hd.mono a2⟩⟩
        unfold upd at g5
        split at g5
        · cases g5; simp only; omega
        · have := (hr.new k z g5).2; omega
    obtain ⟨ρ1, l1, r1, hdis, hd1⟩ := step
    obtain ⟨r2, l2⟩ := r1.add (w' := w1) (x := ⟨l, 0, L⟩) q0 q1 q2 ⟨by simp only; omega, hsz.2⟩ ⟨cx.ready, hlo⟩ (fun j b z g1 g2 => r1.br j b z g1 g2) hdis (Nat.le_refl _) r1.ext
    have l12 := l1.trans l2
    have hxl := upd_self ρ1 i ⟨l, 0, L⟩
    have hΓ : GR P (upd ρ1 i ⟨l, 0, L⟩) ((i, ⟨nt, ps, ks, x, y, assign, body, ae⟩) :: Γ) := by
      intro j info hj
      unfold LCx.get at hj
      by_cases hij : i = j
      · subst hij
        rw [show Nat.beq i i = true from Nat.beq_refl _, cond_true] at hj
        cases hj
        exact ⟨_, env, hxl, he.mono l12, fun xs W p R h1 h2 => cx.yield xs W p R h1 h2⟩
      · have hbq : Nat.beq i j = false := by
          cases hbq : Nat.beq i j with
          | false => rfl
          | true => exact absurd (Nat.eq_of_beq_eq_true hbq) hij
        rw [hbq, cond_false] at hj
        exact (hg.mono l12) j info hj
    refine Calls.mono (callC_ok hP hp (K := fun vs w2 => vs = [] ∧ ∃ st p, L st p w2 ∧ st ≠ .busy ∧ jumpK (fun w' => K .normal env (cond r'.isNone (w.heap.size :: ds) ds) w') (fun w' => K .ret env (cond r'.isNone (w.heap.size :: ds) ds) w') ((exitsOf body).map fun id => (id, fun w' => K (.exit id) env (cond r'.isNone (w.heap.size :: ds) ds) w')) p (setLoop w2 l .exhausted p)) h hΓ r2 ((hf.mono l12).app (.cons (.yld hxl) (hc.mono l12))) fun rs s3 hk ρ3 w3 rs' l3 r3 v3 => ?_) ?_
    · split at hk
      · rename_i st p hg3
        cases v3
        refine ⟨rfl, ?_⟩
        have hx3 := l3 _ _ hxl
        obtain ⟨hL3, _⟩ := r3.br i _ _ hg3 hx3
        cases hbz : lsE st .busy with
        | true => rw [hbz] at hk; cases hk
        | false =>
          rw [hbz, cond_false] at hk
          obtain ⟨s4, hk, b1, b2⟩ := putB_ok hk
          refine ⟨st, codeJ p, hL3, fun e => (by rw [e] at hbz; cases hbz), ?_⟩
          have r4 : Rel w0 ρ3 s4 (setLoop w3 l .exhausted (codeJ p)) := r3.chg hx3 hg3 trivial b1 b2 (Fr8.setLoop w3 l .exhausted (codeJ p)) trivial
          have l03 := l12.trans l3
          have hd3 := hd1.mono (l2.trans l3)
          have he3 := he.mono l03
          cases p with
          | no => exact hK _ _ _ _ hk ρ3 _ env _ l03 r4 he3 hd3
          | ret => exact hK _ _ _ _ hk ρ3 _ env _ l03 r4 he3 hd3
          | ex id =>
            obtain ⟨g1, hk⟩ := cond_ok hk
            exact findK_of (f := fun id w' => K (.exit id) env (cond r'.isNone (w.heap.size :: ds) ds) w') g1 (hK _ _ _ _ hk ρ3 _ env _ l03 r4 he3 hd3)
      · cases hk
    · rintro e w2 ⟨vs, rfl, rfl, hx⟩
      exact ⟨rfl, hx⟩
  · cases h

theorem codeC_ok (hP : POk P) (hp : CodeOk P w0 prev) (hpf : CodeF prev) : CodeOk P w0 (codeC P A prev) := by
  intro nt c r r' an ae ads Γ s k h ρ w env ds K hr he hd hg hrr hK
  cases c with
  | skip => exact hK _ _ _ _ h ρ w env ds (Le.refl ρ) hr he hd
  | label _ => exact hK _ _ _ _ h ρ w env ds (Le.refl ρ) hr he hd
  | ret => exact hK _ _ _ _ h ρ w env ds (Le.refl ρ) hr he hd
  | exit id => exact hK _ _ _ _ h ρ w env ds (Le.refl ρ) hr he hd
  | region id ops draw =>
    have h : regC P A prev nt ops.toList draw ae ads Γ s k = true := h
    unfold regC at h
    unfold den
    have hcb : CbOk false P w0 ρ (cbOf P A prev Γ) := cbOf_ok hP hp hg
    cases draw with
    | true =>
      rw [cond_true] at h
      rw [cond_true]
      obtain ⟨h1, h⟩ := cond_ok h
      unfold drawnDen
      rw [h1, cond_true]
      exact drawC_ok hcb (cbOf_f P A hpf Γ) _ _ _ _ _ [] _ _ _ h ρ w.drew env _ (Le.refl ρ) hr.drew he (fun i sh a v hm => by cases hm) fun e' s' a hk ρ' w' env' l' r1 he' _ => hK _ _ _ _ hk ρ' w' env' ds l' r1 he' (hd.mono l')
    | false =>
      rw [cond_false] at h
      rw [cond_false]
      exact opsC_ok hcb h (Le.refl ρ) hr he fun e' s' hk ρ' w' env' l' r1 he' _ => hK _ _ _ _ hk ρ' w' env' ds l' r1 he' (hd.mono l')
  | seq a b =>
    have h : seqC prev nt a b r an ae ads Γ s k = true := h
    unfold seqC at h
    split at h
    · rename_i x y
      unfold den
      dsimp only
      refine hp _ _ _ r' _ _ _ _ _ _ h ρ w env ds _ hr he hd hg hrr fun e ae' ads' s' hk ρ' w' env' ds' l' r1 he' hd' => ?_
      unfold seqK at hk
      cases e with
      | normal => exact hp _ _ _ r' _ _ _ _ _ _ hk ρ' w' env' ds' K r1 he' hd' (hg.mono l') (hrr.mono l') (hK.mono l')
      | _ => exact hK _ _ _ _ hk ρ' w' env' ds' l' r1 he' hd'
    · cases h
  | cond c a b =>
    have h : condC prev nt c a b r an ae ads Γ s k = true := h
    unfold condC at h
    split at h
    · rename_i x y
      unfold den
      dsimp only
      split at h
      · rename_i t ht
        obtain ⟨v, h1, h2⟩ := evA_ok he ht
        cases h2
        rw [h1]
        dsimp only
        cases t with
        | true => exact hp _ _ _ r' _ _ _ _ _ _ h ρ w env ds K hr he hd hg hrr hK
        | false => exact hp _ _ _ r' _ _ _ _ _ _ h ρ w env ds K hr he hd hg hrr hK
      · cases h
    · cases h
  | block id a =>
    have h : blkC prev nt id a r an ae ads Γ s k = true := h
    unfold blkC at h
    split at h
    · rename_i x
      unfold den
      dsimp only
      refine hp _ _ _ r' _ _ _ _ _ _ h ρ w env ds _ hr he hd hg hrr fun e ae' ads' s' hk ρ' w' env' ds' l' r1 he' hd' => ?_
      unfold blkK at hk
      cases e with
      | exit id' =>
        dsimp only at hk ⊢
        cases hb : Nat.beq id' id with
        | true => rw [hb, cond_true] at hk; rw [cond_true]; exact hK _ _ _ _ hk ρ' w' env' ds' l' r1 he' hd'
        | false => rw [hb, cond_false] at hk; rw [cond_false]; exact hK _ _ _ _ hk ρ' w' env' ds' l' r1 he' hd'
      | _ => exact hK _ _ _ _ hk ρ' w' env' ds' l' r1 he' hd'
    · cases h
  | scope a =>
    have h : prev nt a r an ae ads Γ s (scpK k) = true := h
    unfold den
    refine hp _ _ _ r' _ _ _ _ _ _ h ρ w env ds _ hr he hd hg hrr fun e ae' ads' s' hk ρ' w' env' ds' l' r1 he' hd' => ?_
    unfold scpK at hk
    cases e with
    | goto _ => cases hk
    | _ => exact hK _ _ _ _ hk ρ' w' env' ds' l' r1 he' hd'
  | loop a =>
    have h : lpC prev nt a r an ae ads Γ s k = true := h
    exact lpC_ok hp h hr he hd hg hrr hK
  | rangeFunc g ps assign body =>
    have h : rfC P A prev nt g ps.toList assign body r an ae ads Γ s k = true := h
    unfold rfC at h
    split at h
    · rename_i ks x y
      obtain ⟨h1, h⟩ := cond_ok h
      unfold den
      dsimp only
      rw [h1, cond_true]
      cases r with
      | none =>
        dsimp only at h
        cases r' with
        | some _ => exact hrr.elim
        | none =>
        obtain ⟨m, s1, h, q0, q1, q2⟩ := newB_ok h
        exact rngC_ok (r := none) hP hp h (.inr ⟨m, rfl, rfl, q0, q1, q2⟩) (fun l₀ e => by cases e) hr he hd hg hK
      | some l0 =>
        dsimp only at h
        cases r' with
        | none => exact hrr.elim
        | some b =>
        obtain ⟨z, hz, rfl⟩ := hrr
        split at h
        · rename_i st p hgl
          obtain ⟨hL, hLo⟩ := hr.br l0 _ z hgl hz
          exact rngC_ok (r := some l0) hP hp h (.inl ⟨rfl, rfl, by simp⟩) (fun l₀ e => by cases e; exact hLo.isLoop _ _ _ hL) hr he hd hg hK
        · cases h
    · cases h
  | _ => cases h

theorem run_ok (hP : POk P) : ∀ n, CodeOk P w0 (run P A n)
  | 0 => fun nt c r r' an ae ads Γ s k h => by cases h
  | n + 1 => codeC_ok hP (run_ok hP n) (run_f P A n)

/-- What the machine says of a function without parameters holds in every world. -/
theorem runF_ok (hP : POk P) {n : Nat} {f : FuncId} (h : runF P A n f (fun rs _ => match rs with
    | [.bool true] => true
    | _ => false) = true) (w : World) : Calls P f ⟨[]⟩ w fun e w' => e = .returned (.bool true) ∧ Ext w w' := by
  unfold runF at h
  have hr : Rel w (fun _ => none) ⟨.lf, 0⟩ w := ⟨fun i a g => (by cases g), fun i _ => rfl, fun i a x g => (by cases g), fun i x g => (by cases g), fun i j a b x y g => (by cases g), Ext.refl w⟩
  refine Calls.mono (callC_ok (w0 := w) hP (run_ok hP n) (K := fun vs w' => vs = [.bool true] ∧ Ext w w') h (fun l i g => by cases g) hr .nil fun rs s' hk ρ' w' rs' l' r' v' => ?_) ?_
  · split at hk
    · cases v' with
      | cons g g' =>
      cases g'
      cases g
      exact ⟨rfl, r'.ext⟩
    · cases hk
  · rintro e w' ⟨vs, rfl, rfl, hx⟩
    exact ⟨rfl, hx⟩
end
end Gp.Rn
