import Derived.Test.YtmcdmhegjhcjhaaGreatDraw3
/- The canonical order serves every order: the simulation. -/
namespace Gp
open Go

/-- What an operation does, once what it looks at is as E says: it yields v, in this world. -/
def Ex (P : Program) (r : Option Nat) (ops : Array Oper) (i : Nat) (o : Oper) (E : Env) (v : Value) (w : World) : Prop :=
  ∀ (n : Nat) (Q : Exit → Act → World → Prop) (a : Act) (next : Act → World → Prop), AgrOn E a (o.looksAt ops) → next (a.put o.dst v) w → wpOpIn (Fr r) n P ops Q i next a w

theorem stabCells_elim {w : World} {a : Addr} {rest : Prop} : ∀ (vs : List Value) (i : Nat), stabCells vs w a i rest → (∀ j v, vs[j]? = some v → w.cell? (a.add (i + j)) = some v) ∧ rest := by
  intro vs
  induction vs with
  | nil => exact fun i h => ⟨fun j v hj => by simp at hj, h⟩
  | cons v vs ih =>
    rintro i ⟨h1, h2⟩
    obtain ⟨h3, h4⟩ := ih (i + 1) h2
    refine ⟨fun j u hj => ?_, h4⟩
    cases j with
    | zero => simp at hj; subst hj; exact h1
    | succ j => rw [show i + (j + 1) = i + 1 + j by omega]; exact h3 j u (by simpa using hj)

theorem stabCells_true {w : World} {a : Addr} {rest : Prop} : ∀ (vs : List Value) (i : Nat), stabCells vs w a i rest → stabCells vs w a i True := by
  intro vs
  induction vs with
  | nil => exact fun _ _ => trivial
  | cons v vs ih => exact fun i h => ⟨h.1, ih _ h.2⟩

theorem stab1_rest {sh : Shape} {av v : Value} {w : World} {rest : Prop} (h : stab1 sh av v w rest) : stab1 sh av v w True ∧ rest := by
  unfold stab1 at h ⊢
  split at h
  · exact ⟨⟨h.1, trivial⟩, h.2⟩
  · exact ⟨stabCells_true _ _ h, (stabCells_elim _ _ h).2⟩
  · exact h.elim

theorem stabs_elim {pb : Nat} {w : World} {rest : Prop} : ∀ (ld : List (Nat × Shape × Value × Value)), stabs pb w ld rest →
    rest ∧ ∀ i sh av v, (i, sh, av, v) ∈ ld → pb.testBit i = true ∨ stab1 sh av v w True := by
  intro ld
  induction ld with
  | nil => exact fun h => ⟨h, fun i sh av v hm => by cases hm⟩
  | cons x ld ih =>
    obtain ⟨i, sh, av, v⟩ := x
    intro h
    simp only [stabs] at h
    cases hb : pb.testBit i with
    | true =>
      rw [hb] at h
      obtain ⟨h1, h2⟩ := ih h
      refine ⟨h1, fun j sj bv u hm => ?_⟩
      cases hm with
      | head => exact .inl hb
      | tail _ hm => exact h2 _ _ _ _ hm
    | false =>
      rw [hb] at h
      obtain ⟨h0, h⟩ := stab1_rest h
      obtain ⟨h1, h2⟩ := ih h
      refine ⟨h1, fun j sj bv u hm => ?_⟩
      cases hm with
      | head => exact .inr h0
      | tail _ hm => exact h2 _ _ _ _ hm

/-! ### One operation that leaves the world alone -/
theorem ldN_again {w : World} {a : Addr} : ∀ (ks : List Kind) (i : Nat) (φ : List Value → Prop), LdN ks w a i φ →
    ∃ vs, φ vs ∧ (∀ j v, vs[j]? = some v → w.cell? (a.add (i + j)) = some v) ∧
      ∀ w' : World, (∀ j v, vs[j]? = some v → w'.cell? (a.add (i + j)) = some v) → ∀ φ' : List Value → Prop, φ' vs → LdN ks w' a i φ' := by
  intro ks
  induction ks with
  | nil => exact fun i φ h => ⟨[], h, fun j v hj => by simp at hj, fun _ _ φ' h' => h'⟩
  | cons k ks ih =>
    rintro i φ ⟨x, hx, h⟩
    obtain ⟨vs, hφ, hc, hag⟩ := ih (i + 1) _ h
    refine ⟨k.enc x :: vs, hφ, fun j v hj => ?_, fun w' hw φ' h' => ?_⟩
    · cases j with
      | zero => simp at hj; subst hj; exact hx
      | succ j => rw [show i + (j + 1) = i + 1 + j by omega]; exact hc j v (by simpa using hj)
    · refine ⟨x, by simpa using hw 0 (k.enc x) (by simp), hag w' (fun j v hj => ?_) _ h'⟩
      have := hw (j + 1) v (by simpa using hj)
      rwa [show i + (j + 1) = i + 1 + j by omega] at this

theorem load_again {sh : Shape} {w : World} {a : Addr} {φ : Value → Prop} (h : sh.ld w a φ) :
    ∃ v, φ v ∧ (∀ φ' : Value → Prop, φ' v → sh.ld w a φ') ∧ ∀ w', stab1 sh (.pointer (some a)) v w' True → ∀ φ' : Value → Prop, φ' v → sh.ld w' a φ' := by
  cases sh with
  | one k =>
    obtain ⟨x, hx, h⟩ := h
    exact ⟨_, h, fun φ' h' => ⟨x, hx, h'⟩, fun w' hs φ' h' => ⟨x, hs.1, h'⟩⟩
  | agg ks =>
    obtain ⟨vs, hφ, hc, hag⟩ := ldN_again ks 0 _ h
    exact ⟨_, hφ, fun φ' h' => hag w hc (fun vs => φ' (.agg ⟨vs⟩)) h', fun w' hs φ' h' => hag w' (stabCells_elim _ _ hs).1 (fun vs => φ' (.agg ⟨vs⟩)) h'⟩

/-- An operation that is no effect: what it yields, here and wherever what it loaded is there still. -/
theorem ne_op {P : Program} {o : Oper} {ρ : Operand → Value} {w : World} {K : Value → World → Prop} (hne : isEff P o = false) (h : opDen P o ρ w K) :
    ∃ v, K v w ∧ (∀ K' : Value → World → Prop, K' v w → opDen P o ρ w K') ∧
      ((∀ (w' : World) (K' : Value → World → Prop), K' v w' → opDen P o ρ w' K') ∨
       ∃ t x d sh, o.op = .load t x ∧ o.dst = some d ∧ shapeOf P t = some sh ∧ ∀ w', stab1 sh (ρ x) v w' True → ∀ K' : Value → World → Prop, K' v w' → opDen P o ρ w' K') := by
  by_cases hl : ∃ t x, o.op = .load t x
  · obtain ⟨t, x, ho⟩ := hl
    have hd : ∃ d, o.dst = some d := by
      simp only [isEff, ho] at hne
      cases hd : o.dst with
      | none => simp [hd] at hne
      | some d => exact ⟨d, rfl⟩
    obtain ⟨d, hd⟩ := hd
    have e : ∀ w K, opDen P o ρ w K = (match ρ x, shapeOf P t, sizeOf? P t with
        | .pointer (some a), some sh, some n => cond (Nat.beq sh.cells n) (sh.ld w a fun v => K v w) False
        | _, _, _ => False) := by
      intro w K; simp only [opDen, ho]; rfl
    rw [e] at h
    split at h
    · rename_i a sh n hx hs hn
      cases hb : Nat.beq sh.cells n with
      | false => rw [hb] at h; exact h.elim
      | true =>
        rw [hb] at h
        obtain ⟨v, hv, h1, h2⟩ := load_again h
        have e' : ∀ w K, opDen P o ρ w K = sh.ld w a fun v => K v w := by
          intro w K; rw [e]; simp only [hx, hs, hn, hb, cond_true]
        refine ⟨v, hv, fun K' hk => ?_, .inr ⟨t, x, d, sh, ho, hd, hs, fun w' hst K' hk => ?_⟩⟩
        · rw [e']; exact h1 (fun v => K' v w) hk
        · rw [e']; rw [hx] at hst; exact h2 w' hst (fun v => K' v w') hk
    · exact h.elim
  · obtain ⟨v, hv, h'⟩ := pure_op hne (fun t x e => hl ⟨t, x, e⟩) h
    exact ⟨v, hv, fun K' hk => h' w K' hk, .inl h'⟩

theorem ne_step {P : Program} (hP : POk P) {nt : Nat} {ops : Array Oper} {i : Nat} {o : Oper} {g : Bool} {env : Env} {w : World} {K : Env → World → Prop} (r : Option Nat)
    (ho : ops[i]? = some o) (hne : isEff P o = false) (h : stepDen P nt ops.toList o g env w K) :
    ∃ v, dstOk nt o.dst = true ∧ K (env.put o.dst v) w ∧ Ex P r ops i o env v w ∧
      ((∀ w', Ex P r ops i o env v w') ∨ ∃ sh av, (∀ ld, (i, sh, av, v) ∈ loadOf P ops.toList i o env (env.put o.dst v) ld) ∧ ∀ w', stab1 sh av v w' True → Ex P r ops i o env v w') := by
  have run : ∀ (K' : Env → World → Prop), execDen P nt o g env w K' → stepDen P nt ops.toList o g env w K → (∀ w' (K'' : Env → World → Prop), execDen P nt o false env w' K'' → stepDen P nt ops.toList o false env w' K'') →
      goesOn ops.toList o env = true → execDen P nt o g env w K → 
      ∃ v, dstOk nt o.dst = true ∧ K (env.put o.dst v) w ∧ Ex P r ops i o env v w ∧
      ((∀ w', Ex P r ops i o env v w') ∨ ∃ sh av, (∀ ld, (i, sh, av, v) ∈ loadOf P ops.toList i o env (env.put o.dst v) ld) ∧ ∀ w', stab1 sh av v w' True → Ex P r ops i o env v w') := by
    intro _ _ _ hstep hgo h
    unfold execDen at h
    cases hb : (defd env o.op.operands.toList && dstOk nt o.dst) with
    | false => rw [hb] at h; exact h.elim
    | true =>
      rw [hb] at h
      simp only [cond_true] at h
      have hdst : dstOk nt o.dst = true := by simp only [Bool.and_eq_true] at hb; exact hb.2
      obtain ⟨v, hv, h1, h2⟩ := ne_op hne h
      have mk : ∀ w', (∀ K' : Value → World → Prop, K' v w' → opDen P o (ev env) w' K') → Ex P r ops i o env v w' := by
        intro w' hw' n Q a next ha hn
        have hx2 : execDen P nt o false env w' fun env' w'' => (∀ u, env' = env.put o.dst u → u = v ∨ o.dst = none) ∧ w'' = w' := by
          unfold execDen
          rw [hb]
          simp only [cond_true]
          refine hw' _ ?_
          simp only [split, cond_false]
          refine ⟨fun u hu => ?_, by trivial⟩
          cases hd : o.dst with
          | none => exact .inr rfl
          | some d =>
            left
            rw [hd] at hu
            simp only [Env.put, List.cons.injEq, Prod.mk.injEq, true_and, and_true] at hu
            exact hu.symm
        refine stepDen_sound hP ho (hstep w' _ hx2) ha fun u w'' hu _ => ?_
        obtain ⟨hu, rfl⟩ := hu
        rcases hu u rfl with rfl | hd
        · exact hn
        · rw [hd] at hn ⊢; exact hn
      refine ⟨v, hdst, split_elim hv, mk w h1, ?_⟩
      rcases h2 with h2 | ⟨t, x, d, sh, e1, e2, e3, h2⟩
      · exact .inl fun w' => mk w' (h2 w')
      · refine .inr ⟨sh, ev env x, fun ld => ?_, fun w' hs => mk w' (h2 w' hs)⟩
        simp only [loadOf, e1, e2, hgo, cond_true, e3]
        have : ev (env.put (some d) v) (.tmp d) = v := by simp [ev, evO, Env.put, get_cons]
        rw [this]
        exact List.mem_cons_self ..
  unfold stepDen at h
  cases hg : o.guard with
  | none =>
    simp only [hg] at h
    exact run _ h (by unfold stepDen; simp only [hg]; exact h) (fun w' K'' hx => by unfold stepDen; simp only [hg]; exact hx) (by simp [goesOn, hg]) h
  | some jw =>
    obtain ⟨j, want⟩ := jw
    simp only [hg] at h
    cases hs : (ops.toList[j]?).bind (·.dst) with
    | none => simp only [hs] at h
    | some s =>
      simp only [hs] at h
      split at h
      · rename_i t ht
        cases hb : (t == want) with
        | true =>
          rw [hb] at h
          refine run _ h (by unfold stepDen; simp only [hg, hs, ht, hb]; exact h) (fun w' K'' hx => by unfold stepDen; simp only [hg, hs, ht, hb]; exact hx) (by simp only [goesOn, hg, hs, ht]; exact hb) h
        | false =>
          rw [hb] at h
          simp only [cond_false] at h
          cases hd : dstOk nt o.dst with
          | false => rw [hd] at h; exact h.elim
          | true =>
            rw [hd] at h
            have mk : ∀ w', Ex P r ops i o env undef w' := by
              intro w' n Q a next ha hn
              have hy := yielded_get (ha _ (looks_guard hg hs)) hs ht
              have hw : ¬ (Region.wanted o (yielded ops a.tmps) = true) := by
                have : t ≠ want := by intro e; simp [e] at hb
                simp [Region.wanted, hg, hy, this]
              unfold wpOpIn
              simp only [ho]
              rw [if_neg hw]
              exact ⟨fun _ _ => trivial, hn⟩
            exact ⟨undef, by first | exact hd | rfl, h, mk w, .inl mk⟩
      · rename_i vs ht
        cases hd : dstOk nt o.dst with
        | false => rw [hd] at h; exact h.elim
        | true =>
          rw [hd] at h
          have mk : ∀ w', Ex P r ops i o env undef w' := by
            intro w' n Q a next ha hn
            have hw : ¬ (Region.wanted o (yielded ops a.tmps) = true) := by
              have h1' : (ops[j]?).bind (·.dst) = some s := by simpa using hs
              have := (ha _ (looks_guard hg hs)) _ ht
              simp [Region.wanted, hg, yielded, h1', this]
            unfold wpOpIn
            simp only [ho]
            rw [if_neg hw]
            exact ⟨fun _ _ => trivial, hn⟩
          exact ⟨undef, by first | exact hd | rfl, h, mk w, .inl mk⟩
      · exact h.elim
end Gp
