import Derived.Test.YtmcdmhegjhcjhaaGreatDraw4
namespace Gp
open Go

def Lst (listed : Array Bool) (i : Nat) : Prop := listed.getD i false = true

/-- Where the machine is (the listed operations), and where the canonical order is (p). -/
structure Sim (P : Program) (r : Option Nat) (nt : Nat) (dfr : List Deferred) (ws : List Nat) (a0 : Act) (ops : Array Oper)
    (D : Nat → Prop) (p : List Nat) (ld : List (Nat × Shape × Value × Value)) (V : Nat → Value) (E : Nat → Env) (env : Env) (a : Act) (w : World) : Prop where
  sub : ∀ i, D i → i ∈ p
  lt : ∀ i ∈ p, i < ops.size
  closedP : ∀ i j, i ∈ p → Dir ops j i → j ∈ p
  closedD : ∀ i j, D i → Dir ops j i → D j
  pend : ∀ i ∈ p, ¬ D i → ∀ o, ops[i]? = some o → isEff P o = false ∧ dstOk nt o.dst = true ∧ Ex P r ops i o (E i) (V i) w ∧
    ((∀ w', Ex P r ops i o (E i) (V i) w') ∨ ∃ sh av, (i, sh, av, V i) ∈ ld ∧ ∀ w', stab1 sh av (V i) w' True → Ex P r ops i o (E i) (V i) w')
  look : ∀ i ∈ p, ¬ D i → ∀ o, ops[i]? = some o → ∀ s ∈ o.looksAt ops, (∀ (j : Nat) (oj : Oper), ops[j]? = some oj → oj.dst = some s → Pre ops j i → D j) → ∀ u, (E i).get s = some u → a.tmps[s]? = some u
  src : ∀ i ∈ p, ¬ D i → ∀ (j : Nat) (oj : Oper) (s : Nat), Pre ops j i → ops[j]? = some oj → oj.dst = some s → (E i).get s = some (V j)
  cur : ∀ s u, (∀ (j : Nat) (oj : Oper), j ∈ p → ¬ D j → ops[j]? = some oj → oj.dst ≠ some s) → env.get s = some u → a.tmps[s]? = some u
  val : ∀ (j : Nat) (oj : Oper) (s : Nat), j ∈ p → ops[j]? = some oj → oj.dst = some s → env.get s = some (V j)
  size : a.tmps.size = nt
  defers : a.defers = dfr
  same : ∀ s, s ∉ ws → a.tmps[s]? = a0.tmps[s]?

theorem env_put_get (env : Env) (d : Option Nat) (v : Value) (s : Nat) : (env.put d v).get s = if d = some s then some v else env.get s := by
  cases d with
  | none => simp [Env.put]
  | some d => simp only [Env.put, get_cons, Option.some.injEq]

section
variable {P : Program} {r : Option Nat} {nt : Nat} {dfr : List Deferred} {ws : List Nat} {a0 : Act} {ops : Array Oper}

/-- The canonical order takes one more that leaves the world alone. -/
theorem Sim.more {D : Nat → Prop} {p : List Nat} {ld : List (Nat × Shape × Value × Value)} {V : Nat → Value} {E : Nat → Env} {env : Env} {a : Act} {w : World} (hR : ROk ops)
    (hs : Sim P r nt dfr ws a0 ops D p ld V E env a w) {i : Nat} {o : Oper} {v : Value} (ho : ops[i]? = some o) (hi : i ∉ p) (hne : isEff P o = false) (hpre : ∀ j, Dir ops j i → j ∈ p)
    (hd : dstOk nt o.dst = true) (hex : Ex P r ops i o env v w) {ld' : List (Nat × Shape × Value × Value)} (hld : ∀ x ∈ ld, x ∈ ld')
    (hag : (∀ w', Ex P r ops i o env v w') ∨ ∃ sh av, (i, sh, av, v) ∈ ld' ∧ ∀ w', stab1 sh av v w' True → Ex P r ops i o env v w') :
    Sim P r nt dfr ws a0 ops D (i :: p) ld' (fun k => if k = i then v else V k) (fun k => if k = i then env else E k) (env.put o.dst v) a w := by
  have hD : ¬ D i := fun h => hi (hs.sub i h)
  have hpp : ∀ j, Pre ops j i → j ∈ p := fun j hj => pre_preds (D := (· ∈ p)) hs.closedP hpre hj
  have hself : ¬ Pre ops i i := fun h => hi (hpp i h)
  refine ⟨fun j hj => List.mem_cons_of_mem _ (hs.sub j hj), ?_, ?_, hs.closedD, ?_, ?_, ?_, ?_, ?_, hs.size, hs.defers, hs.same⟩
  · intro j hj
    cases hj with
    | head => exact (Array.getElem?_eq_some_iff.1 ho).1
    | tail _ hj => exact hs.lt j hj
  · intro j k hj hk
    cases hj with
    | head => exact List.mem_cons_of_mem _ (hpre k hk)
    | tail _ hj => exact List.mem_cons_of_mem _ (hs.closedP j k hj hk)
  · intro j hj hnd oj hoj
    by_cases e : j = i
    · subst e
      rw [ho] at hoj
      cases hoj
      simp only [if_true]
      exact ⟨hne, hd, hex, hag⟩
    · simp only [if_neg e]
      have hj' : j ∈ p := by cases hj with | head => exact absurd rfl e | tail _ h => exact h
      obtain ⟨h1, h2, h3, h4⟩ := hs.pend j hj' hnd oj hoj
      refine ⟨h1, h2, h3, ?_⟩
      rcases h4 with h4 | ⟨sh, av, h5, h6⟩
      · exact .inl h4
      · exact .inr ⟨sh, av, hld _ h5, h6⟩
  · intro j hj hnd oj hoj s hsl hw u hu
    by_cases e : j = i
    · subst e
      rw [ho] at hoj
      cases hoj
      simp only [if_true] at hu
      refine hs.cur s u (fun k ok hkp hkd hok hks => ?_) hu
      rcases hR.apart j k o ok s ho hok hks hsl with h | h | h
      · exact hi (h ▸ hkp)
      · exact hkd (hw k ok hok hks h)
      · exact hi (pre_closed (D := (· ∈ p)) hs.closedP h hkp)
    · simp only [if_neg e] at hu
      have hj' : j ∈ p := by cases hj with | head => exact absurd rfl e | tail _ h => exact h
      exact hs.look j hj' hnd oj hoj s hsl hw u hu
  · intro j hj hnd k ok s hpk hok hks
    by_cases e : j = i
    · subst e
      simp only [if_true]
      have hkp := hpp k hpk
      have hki : k ≠ j := fun h => hi (h ▸ hkp)
      rw [if_neg hki]
      exact hs.val k ok s hkp hok hks
    · simp only [if_neg e]
      have hj' : j ∈ p := by cases hj with | head => exact absurd rfl e | tail _ h => exact h
      have hkp := pre_closed (D := (· ∈ p)) hs.closedP hpk hj'
      have hki : k ≠ i := fun h => hi (h ▸ hkp)
      rw [if_neg hki]
      exact hs.src j hj' hnd k ok s hpk hok hks
  · intro s u hn hu
    have hds : o.dst ≠ some s := hn i o (List.mem_cons_self ..) hD ho
    rw [env_put_get, if_neg hds] at hu
    exact hs.cur s u (fun j oj hj => hn j oj (List.mem_cons_of_mem _ hj)) hu
  · intro j oj s hj hoj hjs
    rw [env_put_get]
    by_cases e : j = i
    · subst e
      rw [ho] at hoj
      cases hoj
      simp [hjs]
    · have hj' : j ∈ p := by cases hj with | head => exact absurd rfl e | tail _ h => exact h
      have hds : o.dst ≠ some s := fun h => e (hR.dst j i oj o s hoj ho hjs h)
      rw [if_neg hds, if_neg e]
      exact hs.val j oj s hj' hoj hjs

/-- The machine takes one that the canonical order has taken. -/
theorem Sim.take {D : Nat → Prop} {p : List Nat} {ld : List (Nat × Shape × Value × Value)} {V : Nat → Value} {E : Nat → Env} {env : Env} {a : Act} {w : World} (hR : ROk ops)
    (hs : Sim P r nt dfr ws a0 ops D p ld V E env a w) {i : Nat} {o : Oper} (ho : ops[i]? = some o) (hi : i ∈ p) (hnd : ¬ D i) (hpre : ∀ j, Dir ops j i → D j) (hws : ∀ d ∈ dsts ops.toList, d ∈ ws)
    {D' : Nat → Prop} (hD' : ∀ k, D' k ↔ D k ∨ k = i) : Sim P r nt dfr ws a0 ops D' p ld V E env (a.put o.dst (V i)) w := by
  have hpp : ∀ j, Pre ops j i → D j := fun j hj => pre_preds hs.closedD hpre hj
  obtain ⟨_, hd, _⟩ := hs.pend i hi hnd o ho
  have hmem : ∀ d, o.dst = some d → d ∈ ws := fun d h => hws d (List.mem_filterMap.2 ⟨o, List.mem_of_getElem? (by simpa using ho), h⟩)
  have hnd' : ∀ k, ¬ D' k → ¬ D k ∧ k ≠ i := fun k h => ⟨fun x => h ((hD' k).2 (.inl x)), fun x => h ((hD' k).2 (.inr x))⟩
  have hlt : ∀ d, o.dst = some d → d < a.tmps.size := fun d h => by
    rw [h] at hd
    rw [hs.size]
    simpa [dstOk] using hd
  refine ⟨?_, hs.lt, hs.closedP, ?_, ?_, ?_, ?_, ?_, hs.val, by rw [put_tmps_size]; exact hs.size, by rw [put_defers']; exact hs.defers, ?_⟩
  · intro j hj
    rcases (hD' j).1 hj with h | rfl
    · exact hs.sub j h
    · exact hi
  · intro j k hj hk
    rcases (hD' j).1 hj with h | rfl
    · exact (hD' k).2 (.inl (hs.closedD j k h hk))
    · exact (hD' k).2 (.inl (hpre k hk))
  · intro j hj hn; exact hs.pend j hj (hnd' j hn).1
  · intro j hj hn oj hoj s hsl hw u hu
    obtain ⟨hn1, hn2⟩ := hnd' j hn
    rw [put_get]
    by_cases e : o.dst = some s
    · rw [if_pos ⟨e, hlt s e⟩]
      rcases hR.apart j i oj o s hoj ho e hsl with h | h | h
      · exact absurd h hn2
      · rw [hs.src j hj hn1 i o s h ho e] at hu
        exact hu
      · exact absurd (hpp j h) hn1
    · rw [if_neg (fun x => e x.1)]
      refine hs.look j hj hn1 oj hoj s hsl (fun k ok hok hks hpk => ?_) u hu
      rcases (hD' k).1 (hw k ok hok hks hpk) with h | rfl
      · exact h
      · rw [ho] at hok; cases hok; exact absurd hks e
  · intro j hj hn; exact hs.src j hj (hnd' j hn).1
  · intro s u hn hu
    rw [put_get]
    by_cases e : o.dst = some s
    · rw [if_pos ⟨e, hlt s e⟩, ← hu]
      exact (hs.val i o s hi ho e).symm
    · rw [if_neg (fun x => e x.1)]
      refine hs.cur s u (fun j oj hj hjd hoj => ?_) hu
      by_cases ej : j = i
      · subst ej; rw [ho] at hoj; cases hoj; exact e
      · exact hn j oj hj (fun x => by rcases (hD' j).1 x with h | h; exact hjd h; exact ej h) hoj
  · intro s hsw
    rw [put_get, if_neg (fun x => hsw (hmem s x.1))]
    exact hs.same s hsw

/-- Both take an effect. -/
theorem Sim.eff {D : Nat → Prop} {p : List Nat} {ld : List (Nat × Shape × Value × Value)} {V : Nat → Value} {E : Nat → Env} {env : Env} {a : Act} {w w' : World} (hR : ROk ops)
    (hs : Sim P r nt dfr ws a0 ops D p ld V E env a w) {i : Nat} {o : Oper} {v : Value} (ho : ops[i]? = some o) (hi : i ∉ p) (hpre : ∀ j, Dir ops j i → D j) (hd : dstOk nt o.dst = true)
    (hst : ∀ j sh av v, (j, sh, av, v) ∈ ld → ¬ D j → stab1 sh av v w' True) (hws : ∀ d ∈ dsts ops.toList, d ∈ ws)
    {D' : Nat → Prop} (hD' : ∀ k, D' k ↔ D k ∨ k = i) :
    Sim P r nt dfr ws a0 ops D' (i :: p) ld (fun k => if k = i then v else V k) E (env.put o.dst v) (a.put o.dst v) w' := by
  have hpp : ∀ j, Pre ops j i → D j := fun j hj => pre_preds hs.closedD hpre hj
  have hmem : ∀ d, o.dst = some d → d ∈ ws := fun d h => hws d (List.mem_filterMap.2 ⟨o, List.mem_of_getElem? (by simpa using ho), h⟩)
  have hnd' : ∀ k, ¬ D' k → ¬ D k ∧ k ≠ i := fun k h => ⟨fun x => h ((hD' k).2 (.inl x)), fun x => h ((hD' k).2 (.inr x))⟩
  have hlt : ∀ d, o.dst = some d → d < a.tmps.size := fun d h => by
    rw [h] at hd
    rw [hs.size]
    simpa [dstOk] using hd
  have hin : ∀ j, j ∈ i :: p → j ≠ i → j ∈ p := fun j hj hne => by cases hj with | head => exact absurd rfl hne | tail _ h => exact h
  refine ⟨?_, ?_, ?_, ?_, ?_, ?_, ?_, ?_, ?_, by rw [put_tmps_size]; exact hs.size, by rw [put_defers']; exact hs.defers, ?_⟩
  · intro j hj
    rcases (hD' j).1 hj with h | rfl
    · exact List.mem_cons_of_mem _ (hs.sub j h)
    · exact List.mem_cons_self ..
  · intro j hj
    cases hj with
    | head => exact (Array.getElem?_eq_some_iff.1 ho).1
    | tail _ hj => exact hs.lt j hj
  · intro j k hj hk
    cases hj with
    | head => exact List.mem_cons_of_mem _ (hs.sub k (hpre k hk))
    | tail _ hj => exact List.mem_cons_of_mem _ (hs.closedP j k hj hk)
  · intro j k hj hk
    rcases (hD' j).1 hj with h | rfl
    · exact (hD' k).2 (.inl (hs.closedD j k h hk))
    · exact (hD' k).2 (.inl (hpre k hk))
  · intro j hj hn oj hoj
    obtain ⟨hn1, hn2⟩ := hnd' j hn
    obtain ⟨h1, h2, h3, h4⟩ := hs.pend j (hin j hj hn2) hn1 oj hoj
    simp only [if_neg hn2]
    rcases h4 with h4 | ⟨sh, av, h5, h6⟩
    · exact ⟨h1, h2, h4 w', .inl h4⟩
    · exact ⟨h1, h2, h6 w' (hst j sh av _ h5 hn1), .inr ⟨sh, av, h5, h6⟩⟩
  · intro j hj hn oj hoj s hsl hw u hu
    obtain ⟨hn1, hn2⟩ := hnd' j hn
    have hj' := hin j hj hn2
    rw [put_get]
    by_cases e : o.dst = some s
    · rcases hR.apart j i oj o s hoj ho e hsl with h | h | h
      · exact absurd h hn2
      · exact absurd (pre_closed (D := (· ∈ p)) hs.closedP h hj') hi
      · exact absurd (hpp j h) hn1
    · rw [if_neg (fun x => e x.1)]
      refine hs.look j hj' hn1 oj hoj s hsl (fun k ok hok hks hpk => ?_) u hu
      rcases (hD' k).1 (hw k ok hok hks hpk) with h | rfl
      · exact h
      · rw [ho] at hok; cases hok; exact absurd hks e
  · intro j hj hn k ok s hpk hok hks
    obtain ⟨hn1, hn2⟩ := hnd' j hn
    have hj' := hin j hj hn2
    have hkp := pre_closed (D := (· ∈ p)) hs.closedP hpk hj'
    have hki : k ≠ i := fun h => hi (h ▸ hkp)
    rw [if_neg hki]
    exact hs.src j hj' hn1 k ok s hpk hok hks
  · intro s u hn hu
    rw [put_get]
    rw [env_put_get] at hu
    by_cases e : o.dst = some s
    · rw [if_pos ⟨e, hlt s e⟩]
      rw [if_pos e] at hu
      exact hu
    · rw [if_neg (fun x => e x.1)]
      rw [if_neg e] at hu
      refine hs.cur s u (fun j oj hj hjd hoj => ?_) hu
      have ej : j ≠ i := fun h => hi (h ▸ hj)
      exact hn j oj (List.mem_cons_of_mem _ hj) (fun x => by rcases (hD' j).1 x with h | h; exact hjd h; exact ej h) hoj
  · intro j oj s hj hoj hjs
    rw [env_put_get]
    by_cases e : j = i
    · subst e
      rw [ho] at hoj
      cases hoj
      simp [hjs]
    · have hds : o.dst ≠ some s := fun h => e (hR.dst j i oj o s hoj ho hjs h)
      rw [if_neg hds, if_neg e]
      exact hs.val j oj s (hin j hj e) hoj hjs
  · intro s hsw
    rw [put_get, if_neg (fun x => hsw (hmem s x.1))]
    exact hs.same s hsw

theorem okPreds_iff {done : List Nat} {i : Nat} {o : Oper} (ho : ops[i]? = some o) : okPreds done o = true ↔ ∀ j, Dir ops j i → j ∈ done := by
  simp only [okPreds, List.all_eq_true, Bool.or_eq_true, Bool.not_eq_true']
  constructor
  · rintro h j ⟨o', ho', e, he, hb, rfl⟩
    rw [ho] at ho'
    cases ho'
    rcases h e he with h1 | h1
    · rw [hb] at h1; cases h1
    · exact memN_iff.1 h1
  · intro h e he
    cases hb : Region.binds .any e with
    | false => exact .inl rfl
    | true => exact .inr (memN_iff.2 (h e.on ⟨o, ho, e, he, hb, rfl⟩))

/-- The canonical order goes on till nothing is ready that leaves the world alone. -/
theorem normalize (hP : POk P) (hR : ROk ops) {pbs : List Nat} {K : Env → World → Prop} {D : Nat → Prop} {a : Act} {w : World} :
    ∀ (fuel : Nat) (p : List Nat) (ld : List (Nat × Shape × Value × Value)) (V : Nat → Value) (E : Nat → Env) (env : Env),
      Sim P r nt dfr ws a0 ops D p ld V E env a w → drawDen P nt ops.toList pbs fuel p ld env w K →
      ∃ fuel' p' ld' V' E' env', Sim P r nt dfr ws a0 ops D p' ld' V' E' env' a w ∧ drawDen P nt ops.toList pbs (fuel' + 1) p' ld' env' w K ∧ firstNE P p' (enumFrom 0 ops.toList) = none := by
  intro fuel
  induction fuel with
  | zero => intro p ld V E env _ h; exact h.elim
  | succ fuel ih =>
    intro p ld V E env hs h
    cases hf : firstNE P p (enumFrom 0 ops.toList) with
    | none => exact ⟨fuel, p, ld, V, E, env, hs, h, hf⟩
    | some x =>
      obtain ⟨i, o⟩ := x
      simp only [drawDen, hf] at h
      obtain ⟨hm, hi, hne, hok⟩ := firstNE_some _ hf
      have ho := mem_enum0.1 hm
      obtain ⟨v, hd, hK, hex, hag⟩ := ne_step hP r ho hne h
      refine ih _ _ _ _ _ (hs.more hR ho hi hne ((okPreds_iff ho).1 hok) hd hex (ld' := loadOf P ops.toList i o env (env.put o.dst v) ld) (fun x hx => ?_) ?_) hK
      · unfold loadOf
        split
        · cases goesOn ops.toList o env with
          | false => exact hx
          | true =>
            simp only [cond_true]
            split
            · exact List.mem_cons_of_mem _ hx
            · exact hx
        · exact hx
      · rcases hag with hag | ⟨sh, av, h1, h2⟩
        · exact .inl hag
        · exact .inr ⟨sh, av, h1 ld, h2⟩
end
end Gp
