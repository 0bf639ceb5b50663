import Derived.Test.YtmcdmhegjhcjhaaGreatRn13
/- A machine that runs closed code over named blocks: regions. -/
namespace Gp.Rn
open Go Gp

/-- What comes behind a region. -/
def KE (lp : Bool) (w0 : World) (ρ : Nm) (s : St) (w : World) (k : AE → St → Bool) (K : Env → World → Prop) : Prop :=
  ∀ e' s', k e' s' = true → ∀ ρ' w' env', Le ρ ρ' → Rel w0 ρ' s' w' → ER ρ' e' env' → (lp = true → Lp ρ s w s' w') → K env' w'

section
variable {lp : Bool} {w0 : World} {ρ0 : Nm} {P : Program} {cb : Cb} {nt : Nat}

theorem split_of {g : Bool} {v : Value} {K : Value → Prop} (h : K v) : split g v K := by
  unfold split
  cases g with
  | false => exact h
  | true =>
    cases v with
    | bool b => cases b <;> exact h
    | _ => exact h

theorem execC_ok (hcb : CbOk lp P w0 ρ0 cb) {o : Oper} {g : Bool} {e : AE} {env : Env} {s : St} {w : World} {ρ : Nm} {k : AE → St → Bool} {K : Env → World → Prop} (h : execC P cb nt o e s k = true) (hl : Le ρ0 ρ) (hr : Rel w0 ρ s w) (he : ER ρ e env) (hK : KE lp w0 ρ s w k K) : execDen P nt o g env w K := by
  unfold execC at h
  split at h
  · rename_i x hm
    split at h
    · rename_i v hv
      obtain ⟨hd, h⟩ := cond_ok h
      obtain ⟨u, h1, h2⟩ := evA_ok he hv
      have hfin : split g (ev env x) (fun v' => K (env.put o.dst v') w) := split_of (by
        have : ev env x = u := by unfold ev; rw [h1]; rfl
        rw [this]
        exact hK _ _ h ρ w _ (Le.refl ρ) hr (he.put o.dst h2) fun _ => Lp.refl ρ s w)
      have hdf : defd env [x] = true := by unfold defd; rw [h1]; rfl
      unfold execDen opDen
      generalize hop : o.op = op at hm
      cases op <;> first | (cases hm) | skip
      · show cond (defd env [x] && dstOk nt o.dst) _ _
        rw [hdf, hd, Bool.and_self, cond_true]
        exact hfin
      · show cond (defd env [x] && dstOk nt o.dst) _ _
        rw [hdf, hd, Bool.and_self, cond_true]
        exact hfin
    · cases h
  · obtain ⟨hd, h⟩ := cond_ok h
    split at h
    · rename_i as has
      obtain ⟨h1, h2⟩ := evs_ok he has
      unfold execDen
      rw [h1, hd, Bool.and_self, cond_true]
      exact opC_ok hcb h hl hr h2 fun v s' hk ρ' w' v' l' r' hv p' => split_of (hK _ _ hk ρ' w' _ l' r' ((he.mono l').put o.dst hv) p')
    · cases h

theorem stepC_ok (hcb : CbOk lp P w0 ρ0 cb) {ops : List Oper} {o : Oper} {g : Bool} {e : AE} {env : Env} {s : St} {w : World} {ρ : Nm} {k : AE → St → Bool} {K : Env → World → Prop} (h : stepC P cb nt ops o e s k = true) (hl : Le ρ0 ρ) (hr : Rel w0 ρ s w) (he : ER ρ e env) (hK : KE lp w0 ρ s w k K) : stepDen P nt ops o g env w K := by
  unfold stepC at h
  unfold stepDen
  split at h
  · rename_i hg
    rw [hg]
    exact execC_ok hcb h hl hr he hK
  · rename_i j want hg
    rw [hg]
    dsimp only
    split at h
    · rename_i d hd
      rw [hd]
      dsimp only
      split at h
      · rename_i t ht
        obtain ⟨u, h1, h2⟩ := he d _ ht
        cases h2
        rw [h1]
        dsimp only
        cases hw : (t == want) with
        | true => rw [hw, cond_true] at h; exact execC_ok hcb h hl hr he hK
        | false =>
          rw [hw, cond_false] at h
          obtain ⟨h3, h⟩ := cond_ok h
          rw [cond_false, h3, cond_true]
          exact hK _ _ h ρ w _ (Le.refl ρ) hr (he.put o.dst (.tup .nil)) fun _ => Lp.refl ρ s w
      · rename_i vs ht
        obtain ⟨u, h1, h2⟩ := he d _ ht
        cases h2
        rw [h1]
        dsimp only
        obtain ⟨h3, h⟩ := cond_ok h
        rw [h3, cond_true]
        exact hK _ _ h ρ w _ (Le.refl ρ) hr (he.put o.dst (.tup .nil)) fun _ => Lp.refl ρ s w
      · cases h
    · cases h

theorem KE.step {ρ ρ' : Nm} {s s' : St} {w w' : World} {k : AE → St → Bool} {K : Env → World → Prop} (hK : KE lp w0 ρ s w k K) (l : Le ρ ρ') (p : lp = true → Lp ρ s w s' w') : KE lp w0 ρ' s' w' k K :=
  fun e1 s1 h ρ1 w1 env1 l1 r1 he p1 => hK e1 s1 h ρ1 w1 env1 (l.trans l1) r1 he fun hl => (p hl).trans (p1 hl) l

theorem opsC_ok (hcb : CbOk lp P w0 ρ0 cb) {ops : List Oper} {k : AE → St → Bool} {K : Env → World → Prop} : ∀ {l : List Oper} {i : Nat} {e : AE} {env : Env} {s : St} {w : World} {ρ : Nm}, opsC P cb nt ops l e s k = true → Le ρ0 ρ → Rel w0 ρ s w → ER ρ e env → KE lp w0 ρ s w k K → opsDen P nt ops i l env w K
  | [], i, e, env, s, w, ρ, h, hl, hr, he, hK => hK _ _ h ρ w env (Le.refl ρ) hr he fun _ => Lp.refl ρ s w
  | o :: r, i, e, env, s, w, ρ, h, hl, hr, he, hK => by
    rw [opsC_cons] at h
    unfold opsDen
    exact stepC_ok hcb h hl hr he fun e' s' hk ρ' w' env' l' r' he' p' => opsC_ok hcb hk (hl.trans l') r' he' (hK.step l' p')

/-! ### What was loaded is there still -/
def LdR (ρ : Nm) (ld : List (Nat × Shape × AV × AV)) (ld' : List (Nat × Shape × Value × Value)) : Prop := ∀ i sh a v, (i, sh, a, v) ∈ ld' → ∃ b u, (i, sh, b, u) ∈ ld ∧ VR ρ b a ∧ VR ρ u v
theorem LdR.mono {ρ ρ' : Nm} {ld : List (Nat × Shape × AV × AV)} {ld' : List (Nat × Shape × Value × Value)} (h : LdR ρ ld ld') (hl : Le ρ ρ') : LdR ρ' ld ld' := fun i sh a v hm => by
  obtain ⟨b, u, h1, h2, h3⟩ := h i sh a v hm
  exact ⟨b, u, h1, h2.mono hl, h3.mono hl⟩

theorem stabCells_of {a : Addr} {w : World} {rest : Prop} : ∀ (vs : List Value) (i : Nat), (∀ j, j < vs.length → w.cell? (a.add (i + j)) = vs[j]?) → rest → stabCells vs w a i rest
  | [], _, _, h => h
  | v :: vs, i, hc, h => ⟨by have := hc 0 (by simp); simpa using this, stabCells_of vs (i + 1) (fun j hj => by
      have := hc (j + 1) (by simpa using hj)
      rw [show i + 1 + j = i + (j + 1) by omega]
      simpa using this) h⟩

theorem stab1C_ok {ρ : Nm} {s : St} {w : World} {sh : Shape} {a u : AV} {a' u' : Value} {rest : Prop} (h : stab1C sh a u s = true) (hr : Rel w0 ρ s w) (ha : VR ρ a a') (hu : VR ρ u u') (hp : rest) : stab1 sh a' u' w rest := by
  unfold stab1C at h
  split at h
  · rename_i kd i o
    cases ha with
    | ptr hx =>
    split at h
    · rename_i v hv
      obtain ⟨us, g1, g2, g3, _⟩ := rdC_ok hr hx hv
      cases g1 with
      | cons g g' =>
      cases g'
      obtain ⟨rfl, hd⟩ := avEq_ok _ _ h
      have := g3 0 (by simp)
      rw [add_mk] at this
      refine ⟨?_, hp⟩
      rw [hd ρ _ _ hu g]
      exact this
    · cases h
  · rename_i ks i o
    cases ha with
    | ptr hx =>
    split at h
    · rename_i vs
      cases hu with
      | agg hu =>
      split at h
      · rename_i us hv
        obtain ⟨us', g1, g2, g3, _⟩ := rdC_ok hr hx hv
        obtain ⟨rfl, hd⟩ := avsEq_ok _ _ h
        have := hd ρ _ _ hu g1
        subst this
        exact stabCells_of _ 0 (fun j hj => by rw [Nat.zero_add]; exact g3 j hj) hp
      · cases h
    · cases h
  · cases h

theorem stabsC_mem {pb : Nat} {s : St} : ∀ {ld : List (Nat × Shape × AV × AV)}, stabsC pb s ld = true → ∀ i sh a u, (i, sh, a, u) ∈ ld → Nat.testBit pb i = false → stab1C sh a u s = true
  | [], _, _, _, _, _, hm, _ => by cases hm
  | (j, sh', b, v) :: ld, h, i, sh, a, u, hm, hb => by
    unfold stabsC at h
    cases ht : Nat.testBit pb j with
    | true =>
      rw [ht, cond_true] at h
      rcases List.mem_cons.1 hm with e | hm
      · cases e; rw [ht] at hb; cases hb
      · exact stabsC_mem h i sh a u hm hb
    | false =>
      rw [ht, cond_false, Bool.and_eq_true] at h
      rcases List.mem_cons.1 hm with e | hm
      · cases e; exact h.1
      · exact stabsC_mem h.2 i sh a u hm hb

theorem stabs_of {pb : Nat} {s : St} {w : World} {ρ : Nm} {ld : List (Nat × Shape × AV × AV)} {rest : Prop} (h : stabsC pb s ld = true) (hr : Rel w0 ρ s w) (hp : rest) : ∀ {ld' : List (Nat × Shape × Value × Value)}, LdR ρ ld ld' → stabs pb w ld' rest
  | [], _ => hp
  | (i, sh, a, v) :: ld', hl => by
    have ih := stabs_of h hr hp (ld' := ld') fun i sh a v hm => hl i sh a v (List.mem_cons_of_mem _ hm)
    unfold stabs
    cases ht : Nat.testBit pb i with
    | true => exact ih
    | false =>
      obtain ⟨b, u, h1, h2, h3⟩ := hl i sh a v (List.mem_cons_self ..)
      exact stab1C_ok (stabsC_mem h i sh b u h1 ht) hr h2 h3 ih

theorem loadC_ok {ops : List Oper} {i : Nat} {o : Oper} {e e' : AE} {env env' : Env} {ρ ρ' : Nm} {ld ld1 : List (Nat × Shape × AV × AV)} {ld' : List (Nat × Shape × Value × Value)} (h : loadC P ops i o e e' ld = some ld1) (hl : Le ρ ρ') (he : ER ρ e env) (he' : ER ρ' e' env') (hd : LdR ρ ld ld') : LdR ρ' ld1 (loadOf P ops i o env env' ld') := by
  unfold loadC at h
  unfold loadOf
  split at h
  · rename_i t x d ho hdst
    rw [ho, hdst]
    dsimp only
    cases hg : goesOn ops o env with
    | false =>
      rw [cond_false]
      cases hc : goesC ops o e with
      | false => rw [hc, cond_false] at h; cases h; exact hd.mono hl
      | true =>
        rw [hc, cond_true] at h
        split at h
        · split at h
          · cases h
            intro j sh a v hm
            obtain ⟨b, u, h1, h2⟩ := (hd.mono hl) j sh a v hm
            exact ⟨b, u, List.mem_cons_of_mem _ h1, h2⟩
          · cases h
        · cases h; exact hd.mono hl
    | true =>
      have hc : goesC ops o e = true := by
        unfold goesOn at hg
        unfold goesC
        split
        · rfl
        · rename_i j want hgd
          rw [hgd] at hg
          dsimp only at hg
          split
          · rename_i d' hd'
            rw [hd'] at hg
            dsimp only at hg
            split
            · rename_i b hb
              obtain ⟨u, h1, h2⟩ := he _ _ hb
              cases h2
              rw [h1] at hg
              exact hg
            · rename_i vs hb
              obtain ⟨u, h1, h2⟩ := he _ _ hb
              cases h2
              rw [h1] at hg
              cases hg
            · rfl
          · rfl
      rw [hc, cond_true] at h
      rw [cond_true]
      split at h
      · rename_i sh hs
        rw [hs]
        dsimp only
        split at h
        · rename_i a v ha hv
          cases h
          obtain ⟨a', g1, g2⟩ := evA_ok he ha
          obtain ⟨v', g3, g4⟩ := he' _ _ hv
          have e1 : ev env x = a' := by unfold ev; rw [g1]; rfl
          have e2 : ev env' (.tmp d) = v' := by show (env'.get d).getD undef = v'; rw [g3]; rfl
          rw [e1, e2]
          intro j sh' b u hm
          rcases List.mem_cons.1 hm with e | hm
          · cases e
            exact ⟨a, v, List.mem_cons_self .., g2.mono hl, g4⟩
          · obtain ⟨b', u', h1, h2⟩ := (hd.mono hl) j sh' b u hm
            exact ⟨b', u', List.mem_cons_of_mem _ h1, h2⟩
        · cases h
      · rename_i hs
        cases h
        rw [hs]
        exact hd.mono hl
  · rename_i hn
    cases h
    split
    · rename_i t x d h1 h2
      exact absurd h2 (hn t x d h1)
    · exact hd.mono hl

/-! ### All orders -/
theorem allOf_of {α : Type} {f : α → Prop} : ∀ {l : List α}, (∀ x ∈ l, f x) → allOf f l
  | [], _ => trivial
  | [x], h => h x (List.mem_cons_self ..)
  | x :: y :: l, h => ⟨h x (List.mem_cons_self ..), allOf_of fun z hz => h z (List.mem_cons_of_mem _ hz)⟩

theorem enEq_ok : ∀ {a b : List (AV × AV × Nat)}, enEq a b = true → a = b
  | [], [], _ => rfl
  | [], _ :: _, h => by cases h
  | _ :: _, [], h => by cases h
  | (a, b, n) :: l, (a', b', n') :: l', h => by
    unfold enEq at h
    rw [Bool.and_eq_true, Bool.and_eq_true, Bool.and_eq_true] at h
    rw [(avEq_ok _ _ h.1).1, (avEq_ok _ _ h.2.1).1, Nat.eq_of_beq_eq_true h.2.2.1, enEq_ok h.2.2.2]
theorem nsEq_ok : ∀ {a b : List Nat}, nsEq a b = true → a = b
  | [], [], _ => rfl
  | [], _ :: _, h => by cases h
  | _ :: _, [], h => by cases h
  | a :: l, b :: l', h => by
    unfold nsEq at h
    rw [Bool.and_eq_true] at h
    rw [Nat.eq_of_beq_eq_true h.1, nsEq_ok h.2]
theorem abEq_ok {a b : AB} (h : abEq a b = true) : a = b := by
  cases a with
  | row cs z p =>
    cases b <;> first | cases h | skip
    unfold abEq at h
    rw [Bool.and_eq_true, Bool.and_eq_true] at h
    rw [(avsEq_ok _ _ h.1).1, Nat.eq_of_beq_eq_true h.2.1]
    have : ∀ a b : Bool, bEq a b = true → a = b := by intro a b; cases a <;> cases b <;> intro h <;> first | rfl | cases h
    rw [this _ _ h.2.2]
  | map es c =>
    cases b <;> first | cases h | skip
    unfold abEq at h
    rw [Bool.and_eq_true] at h
    rw [enEq_ok h.1, Nat.eq_of_beq_eq_true h.2]
  | iter m a l c =>
    cases b <;> first | cases h | skip
    unfold abEq at h
    rw [Bool.and_eq_true, Bool.and_eq_true, Bool.and_eq_true] at h
    have : ∀ a b : Option Nat, oEq a b = true → a = b := by
      intro a b h
      cases a <;> cases b <;> first | rfl | cases h | skip
      rw [Nat.eq_of_beq_eq_true h]
    rw [this _ _ h.1, Nat.eq_of_beq_eq_true h.2.1, nsEq_ok h.2.2.1, Nat.eq_of_beq_eq_true h.2.2.2]
  | loop st j =>
    cases b <;> first | cases h | skip
    unfold abEq at h
    rw [Bool.and_eq_true] at h
    have h1 : ∀ a b : LoopState, lsE a b = true → a = b := by intro a b; cases a <;> cases b <;> intro h <;> first | rfl | cases h
    have h2 : ∀ a b : Jmp, jEq a b = true → a = b := by
      intro a b h
      cases a <;> cases b <;> first | rfl | cases h | skip
      unfold jEq at h
      rw [Nat.eq_of_beq_eq_true h]
    rw [h1 _ _ h.1, h2 _ _ h.2]
  | mark => cases b <;> first | rfl | cases h
  | dead => cases b <;> first | rfl | cases h
theorem trEq_ok : ∀ {a b : Tr}, trEq a b = true → a = b
  | .lf, .lf, _ => rfl
  | .lf, .nd _ _ _, h => by cases h
  | .nd _ _ _, .lf, h => by cases h
  | .nd v l r, .nd v' l' r', h => by
    unfold trEq at h
    rw [Bool.and_eq_true, Bool.and_eq_true] at h
    rw [trEq_ok h.2.1, trEq_ok h.2.2]
    have h1 := h.1
    split at h1
    · rfl
    · rw [abEq_ok h1]
    · cases h1

theorem aeSub_ok {e e' : AE} : ∀ {l : AE}, aeSub e e' l = true → ∀ t v, (t, v) ∈ l → ∃ a, e.get t = some a ∧ e'.get t = some a
  | [], _, _, _, hm => by cases hm
  | (t, v) :: r, h, u, x, hm => by
    unfold aeSub at h
    rw [Bool.and_eq_true] at h
    rcases List.mem_cons.1 hm with g | hm
    · cases g
      have h1 := h.1
      split at h1
      · rename_i a b ha hb
        have := (avEq_ok _ _ h1).1
        subst this
        exact ⟨a, ha, hb⟩
      · cases h1
    · exact aeSub_ok h.2 u x hm
theorem AE.mem : ∀ {e : AE} {t : Nat} {v : AV}, e.get t = some v → ∃ u, (t, u) ∈ e
  | [], t, v, h => by rw [AE.get_nil] at h; cases h
  | (s, u) :: e, t, v, h => by
    rw [AE.get_cons] at h
    split at h
    · rename_i hs
      subst hs
      exact ⟨u, List.mem_cons_self ..⟩
    · obtain ⟨u', hu⟩ := AE.mem h
      exact ⟨u', List.mem_cons_of_mem _ hu⟩
theorem ER.sub {ρ : Nm} {e e' : AE} {env : Env} (h : aeSub e e' e = true) (he : ER ρ e' env) : ER ρ e env := fun t v g => by
  obtain ⟨u, hu⟩ := AE.mem g
  obtain ⟨a, h1, h2⟩ := aeSub_ok h t u hu
  rw [g] at h1
  cases h1
  exact he t v h2

/-- What comes behind all orders of a region. -/
def KD' (lp : Bool) (w0 : World) (ρ : Nm) (s : St) (w : World) (k : KD) (K : Env → World → Prop) : Prop :=
  ∀ e' s' a, k e' s' a = true → ∀ ρ' w' env', Le ρ ρ' → Rel w0 ρ' s' w' → ER ρ' e' env' → (lp = true → Lp ρ s w s' w') → K env' w'

theorem KD'.step {ρ ρ' : Nm} {s s' : St} {w w' : World} {k : KD} {K : Env → World → Prop} (hK : KD' lp w0 ρ s w k K) (l : Le ρ ρ') (p : lp = true → Lp ρ s w s' w') : KD' lp w0 ρ' s' w' k K :=
  fun e1 s1 a h ρ1 w1 env1 l1 r1 he p1 => hK e1 s1 a h ρ1 w1 env1 (l.trans l1) r1 he fun hl => (p hl).trans (p1 hl) l

def DrOk (lp : Bool) (P : Program) (w0 : World) (ρ0 : Nm) (nt : Nat) (ops : List Oper) (pbs : List Nat) (n : Nat) (prev : DrT) : Prop :=
  ∀ rp acc done ld ld' e s k, prev rp acc done ld e s k = true → ∀ ρ w env K, Le ρ0 ρ → Rel w0 ρ s w → ER ρ e env → LdR ρ ld ld' → KD' lp w0 ρ s w k K → drawDen P nt ops pbs n done ld' env w K

theorem drAll_ok (hcb : CbOk lp P w0 ρ0 cb) {ops : List Oper} {pbs : List Nat} {n : Nat} {prev : DrT} (hp : DrOk lp P w0 ρ0 nt ops pbs n prev) {l acc : List (Nat × Nat)} {done : List Nat} {ld : List (Nat × Shape × AV × AV)} {ld' : List (Nat × Shape × Value × Value)} {e : AE} {s : St} {k : KD} {ρ : Nm} {w : World} {env : Env} {K : Env → World → Prop}
    (hl : Le ρ0 ρ) (hr : Rel w0 ρ s w) (he : ER ρ e env) (hd : LdR ρ ld ld') (hK : KD' lp w0 ρ s w k K) : ∀ {es : List (Nat × Oper)}, drAll P cb nt ops pbs prev l acc done ld e s k es = true →
      ∀ x ∈ es, stepDen P nt ops x.2 (isGuard ops x.1) env w fun env' w' => stabs (pbs.getD x.1 0) w' ld' (drawDen P nt ops pbs n (x.1 :: done) ld' env' w' K)
  | [], _, x, hx => by cases hx
  | y :: r, h, x, hx => by
    unfold drAll at h
    rw [Bool.and_eq_true] at h
    rcases List.mem_cons.1 hx with rfl | hx
    · refine stepC_ok hcb h.1 hl hr.names he fun e' s' hk ρ' w' env' l' r' he' p' => ?_
      obtain ⟨h1, hk⟩ := cond_ok hk
      exact stabs_of h1 r' (hp _ _ _ _ _ _ _ _ hk ρ' w' env' K (hl.trans l') r' he' (hd.mono l') (hK.step l' p')) (hd.mono l')
    · exact drAll_ok hcb hp hl hr he hd hK h.2 x hx

theorem drawC_ok (hcb : CbOk lp P w0 ρ0 cb) (hcf : CbF cb) {ops : List Oper} {pbs : List Nat} : ∀ n, DrOk lp P w0 ρ0 nt ops pbs n (drawC P cb nt ops pbs n)
  | 0 => fun rp acc done ld ld' e s k h => by cases h
  | n + 1 => by
    intro rp acc done ld ld' e s k h ρ w env K hl hr he hd hK
    have ih := drawC_ok hcb hcf (ops := ops) (pbs := pbs) n
    have ihf := drawC_f P hcf nt ops pbs n
    have h : drStep P cb nt ops pbs (drawC P cb nt ops pbs n) rp acc done ld e s k = true := h
    generalize drawC P cb nt ops pbs n = prev at ih ihf h
    unfold drawDen
    unfold drStep at h
    split at h
    · rename_i i o hne
      rw [hne]
      dsimp only
      refine stepC_ok hcb h hl hr he fun e' s' hk ρ' w' env' l' r' he' p' => ?_
      split at hk
      · rename_i ld1 hld
        exact ih _ _ _ _ _ _ _ _ hk ρ' w' env' K (hl.trans l') r' he' (loadC_ok hld l' he he' hd) (hK.step l' p')
      · cases hk
    · rename_i hne
      rw [hne]
      dsimp only
      split at h
      · rename_i hre
        rw [hre]
        dsimp only
        obtain ⟨h1, h⟩ := cond_ok h
        rw [h1, cond_true]
        exact hK _ _ _ h ρ w env (Le.refl ρ) hr he fun _ => Lp.refl ρ s w
      · rename_i i o es hre
        rw [hre]
        dsimp only
        refine allOf_of (f := fun (x : Nat × Oper) => stepDen P nt ops x.2 (isGuard ops x.1) env w fun env' w' => stabs (pbs.getD x.1 0) w' ld' (drawDen P nt ops pbs n (x.1 :: done) ld' env' w' K)) fun x hx => ?_
        unfold drEff at h
        split at h
        · -- the first order tells
          by_cases hQ : ∃ e0 s0 acc0, (drAll P cb nt ops pbs prev acc0 [] done ld e s (fun e1 s1 _ => aeSub e0 e1 e0 && trEq s0.h s1.h) es && k e0 s0 acc0) = true
          · obtain ⟨e0, s0, acc0, hq⟩ := hQ
            rw [Bool.and_eq_true] at hq
            rcases List.mem_cons.1 hx with rfl | hx
            · refine stepC_ok hcb h hl hr he fun e' s' hk ρ' w' env' l' r' he' p' => ?_
              obtain ⟨h1, hk⟩ := cond_ok hk
              refine stabs_of h1 r' (ih _ _ _ _ _ _ _ _ hk ρ' w' env' K (hl.trans l') r' he' (hd.mono l') ?_) (hd.mono l')
              intro e1 s1 a1 hk1
              rw [Bool.and_eq_true] at hk1
              exact (hK.step l' p') e1 s1 a1 hk1.2
            · refine drAll_ok hcb ih hl hr he hd ?_ hq.1 x hx
              intro e1 s1 a1 hk1 ρ1 w1 env1 l1 r1 he1 p1
              rw [Bool.and_eq_true] at hk1
              have hh := trEq_ok hk1.2
              have r2 : Rel w0 ρ1 ⟨s1.h, s0.n⟩ w1 := r1.names
              rw [← hh] at r2
              refine hK e0 s0 acc0 hq.2 ρ1 w1 env1 l1 r2 (he1.sub hk1.1) fun hlp => ?_
              have := p1 hlp
              intro j y st p g1 g2
              obtain ⟨q1, q2⟩ := this j y st p g1 g2
              rw [← hh] at q1
              exact ⟨q1, q2⟩
          · exfalso
            have hz : ∀ e0 s0 acc0, (drAll P cb nt ops pbs prev acc0 [] done ld e s (fun e1 s1 _ => aeSub e0 e1 e0 && trEq s0.h s1.h) es && k e0 s0 acc0) = false := fun e0 s0 acc0 => by
              cases hb : (drAll P cb nt ops pbs prev acc0 [] done ld e s (fun e1 s1 _ => aeSub e0 e1 e0 && trEq s0.h s1.h) es && k e0 s0 acc0) with
              | false => rfl
              | true => exact absurd ⟨e0, s0, acc0, hb⟩ hQ
            simp only [hz, ihf, cond_f, stepC_f P hcf] at h
            cases h
        · exact drAll_ok hcb ih hl hr he hd hK h x hx
end
end Gp.Rn
