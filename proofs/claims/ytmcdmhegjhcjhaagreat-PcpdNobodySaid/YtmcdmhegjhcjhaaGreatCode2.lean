import Derived.Test.YtmcdmhegjhcjhaaGreatCode
/- Soundness of 'den'. -/
namespace Gp
open Go

def mkD (ds : List Nat) : List Deferred := ds.map fun D => { target := .collected D, args := #[] }

theorem dec_enc {k : Kind} {v : Value} {φ : k.T → Prop} (h : k.dec v φ) : ∃ x, v = k.enc x ∧ φ x := by
  cases k <;> cases v <;> first
    | exact h.elim
    | exact ⟨_, rfl, h⟩
    | skip
  case int.int k k' n =>
    simp only [Kind.dec] at h
    cases hb : ikEq k k' with
    | false => rw [hb] at h; exact h.elim
    | true =>
      rw [hb] at h
      have := ikEq_eq hb
      subst this
      exact ⟨n, rfl, h⟩

theorem get_append (A B : Env) (s : Nat) : Env.get (A ++ B) s = match Env.get A s with | some v => some v | none => Env.get B s := by
  induction A with
  | nil => rfl
  | cons x A ih =>
    obtain ⟨t, v⟩ := x
    rw [List.cons_append, get_cons, get_cons]
    by_cases h : t = s
    · simp [h]
    · simp [h, ih]

theorem get_without (ws : List Nat) (env : Env) (s : Nat) : Env.get (without ws env) s = if s ∈ ws then none else Env.get env s := by
  induction env with
  | nil => simp [without, Env.get]
  | cons x env ih =>
    obtain ⟨t, v⟩ := x
    simp only [without]
    cases hb : memN t ws with
    | true =>
      have ht := memN_iff.1 hb
      simp only [cond_true, ih, get_cons]
      by_cases h : t = s
      · subst h; simp [ht]
      · simp [h]
    | false =>
      have ht : t ∉ ws := fun hm => by rw [memN_iff.2 hm] at hb; cases hb
      simp only [cond_false, get_cons, ih]
      by_cases h : t = s
      · subst h; simp [ht]
      · simp [h]

theorem getS_elim : ∀ (st : List (Nat × Kind)) (env : Env) (φ : DenT st → Prop), getS st env φ → ∃ x, φ x ∧ ∀ t v, Env.get (encS st x) t = some v → env.get t = some v := by
  intro st
  induction st with
  | nil => exact fun env φ h => ⟨(), h, fun t v hv => by simp [encS, Env.get] at hv⟩
  | cons p st ih =>
    obtain ⟨s, k⟩ := p
    intro env φ h
    simp only [getS] at h
    cases hg : env.get s with
    | none => simp only [hg] at h
    | some v =>
      simp only [hg] at h
      obtain ⟨x, hx, h⟩ := dec_enc h
      obtain ⟨y, hy, h2⟩ := ih env _ h
      refine ⟨(x, y), hy, fun t u hu => ?_⟩
      simp only [encS, get_cons] at hu
      by_cases e : s = t
      · subst e; simp at hu; rw [← hu, hg, hx]
      · rw [if_neg e] at hu; exact h2 t u hu

theorem decK_elim : ∀ (ks : List Kind) (vs : List Value) (φ : DenK ks → Prop), decK ks vs φ → ∃ x, vs = encK ks x ∧ φ x := by
  intro ks
  induction ks with
  | nil => exact fun vs φ h => match vs, h with | [], h => ⟨(), rfl, h⟩
  | cons k ks ih =>
    intro vs φ h
    cases vs with
    | nil => exact h.elim
    | cons v vs =>
      simp only [decK] at h
      obtain ⟨x, hx, h⟩ := dec_enc h
      obtain ⟨y, hy, h⟩ := ih _ _ h
      exact ⟨(x, y), by rw [encK, hx, hy], h⟩

theorem decJ_elim {s : JSh} {v : Value} {φ : JT s → Prop} (h : decJ s v φ) : ∃ x, v = encJ1 s x ∧ φ x := by
  cases s with
  | sh s => cases s with
    | one k => exact dec_enc h
    | agg ks => cases v <;> first
      | exact h.elim
      | (obtain ⟨x, hx, h⟩ := decK_elim _ _ _ h
         refine ⟨x, ?_, h⟩
         simp only [encJ1, encSh, ← hx])
  | addr => cases v <;> first
      | exact h.elim
      | (rename_i q; cases q with
         | none => exact h.elim
         | some a => exact ⟨a, rfl, h⟩)
  | tup ks => cases v <;> first
      | exact h.elim
      | (obtain ⟨x, hx, h⟩ := decK_elim _ _ _ h
         refine ⟨x, ?_, h⟩
         simp only [encJ1, ← hx])

theorem getJ_elim : ∀ (st : List (Nat × JSh)) (env : Env) (φ : DenJ st → Prop), getJ st env φ → ∃ x, φ x ∧ ∀ t v, Env.get (encJ st x) t = some v → env.get t = some v := by
  intro st
  induction st with
  | nil => exact fun env φ h => ⟨(), h, fun t v hv => by simp [encJ, Env.get] at hv⟩
  | cons p st ih =>
    obtain ⟨s, k⟩ := p
    intro env φ h
    simp only [getJ] at h
    cases hg : env.get s with
    | none => simp only [hg] at h
    | some v =>
      simp only [hg] at h
      obtain ⟨x, hx, h⟩ := decJ_elim h
      obtain ⟨y, hy, h2⟩ := ih env _ h
      refine ⟨(x, y), hy, fun t u hu => ?_⟩
      simp only [encJ, get_cons] at hu
      by_cases e : s = t
      · subst e; simp at hu; rw [← hu, hg, hx]
      · rw [if_neg e] at hu; exact h2 t u hu

theorem least (p : Nat → Prop) (h : ∃ n, p n) : ∃ n, p n ∧ ∀ m, p m → n ≤ m := by
  obtain ⟨n, hn⟩ := h
  induction n using Nat.strongRecOn with
  | _ n ih =>
    by_cases hx : ∃ m, m < n ∧ p m
    · obtain ⟨m, hm, hp⟩ := hx
      exact ih m hm hp
    · exact ⟨n, hn, fun m hm => Nat.le_of_not_lt fun hlt => hx ⟨m, hlt, hm⟩⟩

theorem wpIn_loop_ghost {F : Fence} {n : Nat} {P : Program} {c : Code} {Q : Exit → Act → World → Prop} {a : Act} {w : World} (I : Nat → Act → World → Prop) (h₀ : ∃ m, I m a w)
    (round : ∀ m a w, I m a w → c.wpIn F n P (Exit.then (fun a' w' => ∃ m', m' < m ∧ I m' a' w') Q) a w) : (Code.loop c).wpIn F n P Q a w := by
  have hl : ∀ a w, (∃ m, I m a w) → ∃ m, I m a w ∧ ∀ k, I k a w → m ≤ k := fun a w h => least (fun m => I m a w) h
  refine wpIn_loop (fun a w => ∃ m, I m a w) (fun a w => @dite Nat (∃ m, I m a w) (Classical.propDecidable _) (fun h => Classical.choose (hl a w h)) (fun _ => 0)) h₀ ?_
  intro a w h
  obtain ⟨hI, hmin⟩ := Classical.choose_spec (hl a w h)
  refine wpIn_mono (round _ a w hI) fun e a' w' hq => ?_
  cases e <;> first | exact hq | skip
  obtain ⟨m', hlt, hI'⟩ := hq
  refine ⟨⟨m', hI'⟩, ?_⟩
  have h' : ∃ m, I m a' w' := ⟨m', hI'⟩
  obtain ⟨_, hmin'⟩ := Classical.choose_spec (hl a' w' h')
  simp only [dif_pos h, dif_pos h']
  have := hmin' m' hI'
  omega

/-! ### Scopes without jumps -/
section
variable {P : Program} {F : Fence} {n : Nat} {b : Frame} {a : Act} {k : List Item} {cs : List Frame} {w : World} {Q : Exit → Act → World → Prop}
theorem stepR_scope {c : Code} : step P (lone (b.atR a (.code (.scope c) :: k)) cs w) = .next (lone (b.atR a (.code c :: .inScope c :: k)) cs w) :=
  step_lone_go (by simp [stepG, stepG.exec, Frame.atR])
theorem stepR_inScope {c : Code} : step P (lone (b.atR a (.inScope c :: k)) cs w) = .next (lone (b.atR a k) cs w) :=
  step_lone_go (by simp [stepG, stepG.exec, Frame.atR])

theorem wpIn_scope_straight {c : Code} (h : c.wpIn F n P (Exit.noGoto Q) a w) : (Code.scope c).wpIn F n P Q a w := by
  intro b k cs hro hb hr
  have h0 : (lone (b.atR a (.code (.scope c) :: k)) cs w).fenced P F := fenced_calm hb hr rfl
  obtain ⟨e, a₁, w₁, hq, harr⟩ := h b (.inScope c :: k) cs hro hb hr
  cases e with
  | normal => exact ⟨.normal, a₁, w₁, hq, .head h0 stepR_scope (StepsIn.trans harr (.one (fenced_calm hb hr rfl) stepR_inScope))⟩
  | exit id =>
    have hx : exitTo id (.inScope c :: k) = exitTo id k := by simp [exitTo]
    exact ⟨.exit id, a₁, w₁, hq, fun k' hk => .head h0 stepR_scope (harr.1 k' (by rw [hx]; exact hk)),
      fun hr' hk => let ⟨k₁, h1, h2⟩ := harr.2 hr' (by rw [hx]; exact hk); ⟨k₁, h1, .head h0 stepR_scope h2⟩⟩
  | goto l => exact hq.elim
  | ret => exact ⟨_, a₁, w₁, hq, .of_steps (.one h0 stepR_scope) harr⟩
  | panic ch => exact ⟨_, a₁, w₁, hq, .of_steps (.one h0 stepR_scope) harr⟩
  | outgrown => exact ⟨_, a₁, w₁, hq, .of_steps (.one h0 stepR_scope) harr⟩
end
theorem evO_eval {env : Env} {a : Act} (ha : Agr env a) {c : Operand} {v : Value} (h : evO env c = some v) : a.eval c = v := by
  have := ev_eq ha (x := c) (by rw [h]; rfl)
  rw [← this, ev, h]; rfl

/-! ### The record of a loop over a function -/
section
variable {P : Program}

theorem heap_modify (w : World) (l : Nat) (f : Obj → Obj) (b : Nat) : (w.heap.modify l f)[b]? = if l = b then (w.heap[b]?).map f else w.heap[b]? := by
  rw [Array.getElem?_modify]

theorem setLoop_at {w : World} {l : Nat} {lp : Loop} (h : w.heap[l]? = some (.loop lp)) (st : LoopState) (p : Option Code) : (setLoop w l st p).heap[l]? = some (.loop { lp with state := st, pending := p }) := by
  simp only [setLoop, heap_modify, if_true, h, Option.map_some]

theorem busyW_at {w : World} {l : Nat} {lp : Loop} (h : w.heap[l]? = some (.loop lp)) : (busyW w l).heap[l]? = some (.loop { lp with state := .busy }) := by
  simp only [busyW, heap_modify, if_true, h, Option.map_some]

theorem set_eq_modify {w : World} {l : Nat} {o : Obj} (h : w.heap[l]? = some o) (f : Obj → Obj) : w.heap.setIfInBounds l (f o) = w.heap.modify l f := by
  apply Array.ext_getElem?
  intro i
  have hl := (Array.getElem?_eq_some_iff.1 h).1
  rw [Array.getElem?_setIfInBounds, Array.getElem?_modify]
  by_cases e : l = i
  · subst e
    have h2 : w.heap[l] = o := by have := Array.getElem?_eq_getElem hl; rw [h] at this; exact (Option.some.inj this).symm
    simp [hl, h2]
  · simp [e]

theorem run_getLoop {w : World} {l : Nat} {lp : Loop} (h : w.heap[l]? = some (.loop lp)) : (Instr.getLoop l).run P w = .ok lp w := by
  simp [Instr.getLoop, getObj, Sem.run, h]

theorem run_setObj {w : World} {l : Nat} {lp : Loop} {o : Obj} (h : w.heap[l]? = some (.loop lp)) : (setObj l o).run P w = .ok () { w with heap := w.heap.setIfInBounds l o } := by
  simp [setObj, Sem.run, h]

theorem run_beginRound {w : World} {l : Nat} {lp : Loop} (h : w.heap[l]? = some (.loop lp)) (hr : lp.state = .ready) : (Instr.beginRound l).run P w = .ok () (busyW w l) := by
  simp only [Instr.beginRound, Sem.run_bind, run_getLoop h, Result.andThen_ok, run_setObj h, hr, Sem.run_pure]
  simp only [busyW]
  rw [← set_eq_modify h]

theorem run_endRound {w : World} {l : Nat} {lp : Loop} (h : w.heap[l]? = some (.loop lp)) (j : Option Code) :
    (Instr.endRound l j).run P w = .ok (.bool j.isNone) (setLoop w l (if j.isNone then .ready else .done) j) := by
  simp only [Instr.endRound, Sem.run_bind, run_getLoop h, Result.andThen_ok, run_setObj h, Sem.run_pure]
  simp only [setLoop]
  rw [← set_eq_modify h]

theorem run_endLoop {w : World} {l : Nat} {lp : Loop} (h : w.heap[l]? = some (.loop lp)) (hb : lp.state ≠ .busy) :
    (Instr.endLoop l).run P w = .ok lp.pending (setLoop w l .exhausted lp.pending) := by
  have hb' : ¬ (lp.state = .busy) := hb
  simp [Instr.endLoop, run_getLoop h, run_setObj h, hb']
  simp only [setLoop]
  rw [← set_eq_modify h]

/-- The parameters of a round, laid into its temporaries. -/
abbrev layP (ps : List Nat) (vs : List Value) (tmps : Array Value) : Array Value := (ps.zip vs).foldl (fun (tmps : Array Value) (p : Nat × Value) => tmps.setIfInBounds p.1 p.2) tmps

theorem layP_size : ∀ (ps : List Nat) (vs : List Value) (tmps : Array Value), (layP ps vs tmps).size = tmps.size := by
  intro ps
  induction ps with
  | nil => intro vs tmps; rfl
  | cons p ps ih =>
    intro vs tmps
    cases vs with
    | nil => rfl
    | cons v vs => simp only [layP, List.zip_cons_cons, List.foldl_cons] at ih ⊢; rw [ih]; simp

theorem layP_notin : ∀ (ps : List Nat) (vs : List Value) (tmps : Array Value) (s : Nat), s ∉ ps → (layP ps vs tmps)[s]? = tmps[s]? := by
  intro ps
  induction ps with
  | nil => intro vs tmps s _; rfl
  | cons p ps ih =>
    intro vs tmps s h
    cases vs with
    | nil => rfl
    | cons v vs =>
      simp only [layP, List.zip_cons_cons, List.foldl_cons] at ih ⊢
      rw [ih vs _ s (fun x => h (by simp [x]))]
      have : ¬ (p = s) := fun x => h (by simp [x])
      simp [this]

theorem layP_get : ∀ (ps : List Nat) (vs : List Value) (tmps : Array Value), noDup ps = true → (∀ s ∈ ps, s < tmps.size) →
    ∀ s v, Env.get (encP ps vs) s = some v → (layP ps vs tmps)[s]? = some v := by
  intro ps
  induction ps with
  | nil => intro vs tmps _ _ s v h; simp [encP, Env.get] at h
  | cons p ps ih =>
    intro vs tmps hnd hlt s v h
    cases vs with
    | nil => simp [encP, Env.get] at h
    | cons u vs =>
      simp only [noDup, Bool.and_eq_true, Bool.not_eq_true'] at hnd
      simp only [encP, get_cons] at h
      have e : layP (p :: ps) (u :: vs) tmps = layP ps vs (tmps.setIfInBounds p u) := rfl
      rw [e]
      by_cases hs : p = s
      · subst hs
        rw [if_pos rfl] at h
        have hn : p ∉ ps := fun x => by rw [memN_iff.2 x] at hnd; simp at hnd
        rw [layP_notin _ _ _ _ hn]
        have : p < tmps.size := hlt p (by simp)
        simp [this, ← h]
      · rw [if_neg hs] at h
        exact ih vs _ hnd.2 (fun s hs => by simpa using hlt s (by simp [hs])) s v h
end
end Gp
