import Derived.Test.YtmcdmhegjhcjhaaGreatCode2
namespace Gp
open Go
section
variable {P : Program}

theorem Aft.self {nt : Nat} {dfr : List Deferred} {ws ws' : List Nat} {a0 a : Act} {env : Env} (h : Aft nt dfr ws a0 env a) : Aft nt dfr ws' a env a := ⟨h.agr, h.size, h.defers, fun _ _ => rfl⟩

theorem Aft.trans {nt : Nat} {d1 d2 : List Deferred} {ws ws' : List Nat} {a0 a a' : Act} {env env' : Env} (h : Aft nt d1 ws a0 env a) (h' : Aft nt d2 ws' a env' a') (hs : ∀ s ∈ ws', s ∈ ws) : Aft nt d2 ws a0 env' a' :=
  ⟨h'.agr, h'.size, h'.defers, fun s hn => (h'.same s fun x => hn (hs s x)).trans (h.same s hn)⟩

theorem Aft.env {nt : Nat} {dfr : List Deferred} {ws : List Nat} {a0 a : Act} {env env' : Env} (h : Aft nt dfr ws a0 env a) (he : ∀ s v, env'.get s = some v → a.tmps[s]? = some v) : Aft nt dfr ws a0 env' a :=
  ⟨he, h.size, h.defers, h.same⟩

/-- What the record's holder may count on. -/
def LL (l : Nat) (fn : FuncId) (tmps : Array Value) (ps : Array Tmp) (assign body : Code) (dfr : Nat) (st : LoopState) (p : Option Code) (W : World) : Prop :=
  W.heap[l]? = some (.loop { state := st, pending := p, fn := fn, tmps := tmps, params := ps, assign := assign, body := body, defers := dfr })

/-- One code's soundness. -/
def SoundC (P : Program) (nt : Nat) (c : Code) : Prop :=
  ∀ (r : Option Nat) (an : Ann) (env : Env) (ds : List Nat) (w : World) (K : Exit → Env → List Nat → World → Prop) (n : Nat) (Q : Exit → Act → World → Prop) (ws : List Nat) (a0 a : Act),
    den P nt c r an env ds w K → Aft nt (mkD ds) ws a0 env a → (∀ s ∈ writes c, s ∈ ws) →
    (∀ e env' ds' w' a', Aft nt (mkD ds') ws a0 env' a' → (hasRng c = false → ds' = ds) → K e env' ds' w' → Q e a' w') → c.wpIn (Fr r) n P Q a w

theorem encS_none : ∀ (st : List (Nat × Kind)) (x y : DenT st) (t : Nat), Env.get (encS st x) t = none → Env.get (encS st y) t = none := by
  intro st
  induction st with
  | nil => exact fun x y t h => h
  | cons p st ih =>
    obtain ⟨s, k⟩ := p
    intro x y t h
    simp only [encS, get_cons] at h ⊢
    by_cases e : s = t
    · simp [e] at h
    · simp only [e, if_false] at h ⊢; exact ih _ _ _ h

theorem agr_loop {nt : Nat} {dfr dfr' : List Deferred} {ws ws' : List Nat} {st : List (Nat × Kind)} {x y : DenT st} {env env' : Env} {a0 a a' : Act} (h : Aft nt dfr ws a0 (encS st y ++ without ws' env) a)
    (h' : Aft nt dfr' ws' a env' a') (hx : ∀ t v, Env.get (encS st x) t = some v → env'.get t = some v) : ∀ s v, Env.get (encS st x ++ without ws' env) s = some v → a'.tmps[s]? = some v := by
  intro s v hs
  rw [get_append] at hs
  cases he : Env.get (encS st x) s with
  | some u => rw [he] at hs; simp at hs; subst hs; exact h'.agr s u (hx s u he)
  | none =>
    rw [he] at hs
    simp only at hs
    have hw : s ∉ ws' := by
      intro hw
      rw [get_without] at hs
      simp [hw] at hs
    rw [h'.same s hw]
    refine h.agr s v ?_
    rw [get_append, encS_none st x y s he]
    exact hs

theorem agr_loop0 {st : List (Nat × Kind)} {x : DenT st} {env : Env} {a : Act} (ws' : List Nat) (h : Agr env a)
    (hx : ∀ t v, Env.get (encS st x) t = some v → env.get t = some v) : ∀ s v, Env.get (encS st x ++ without ws' env) s = some v → a.tmps[s]? = some v := by
  intro s v hs
  rw [get_append] at hs
  cases he : Env.get (encS st x) s with
  | some u => rw [he] at hs; simp at hs; subst hs; exact h s u (hx s u he)
  | none =>
    rw [he] at hs
    simp only [get_without] at hs
    by_cases hw : s ∈ ws'
    · simp [hw] at hs
    · simp only [hw, if_false] at hs
      exact h s v hs

theorem agr_join {nt : Nat} {dfr : List Deferred} {ws' : List Nat} {B env env' : Env} {a a' : Act} (ha : Agr env a)
    (h' : Aft nt dfr ws' a env' a') (hx : ∀ t v, Env.get B t = some v → env'.get t = some v) : ∀ s v, Env.get (B ++ without ws' env) s = some v → a'.tmps[s]? = some v := by
  intro s v hs
  rw [get_append] at hs
  cases he : Env.get B s with
  | some u => rw [he] at hs; simp at hs; subst hs; exact h'.agr s u (hx s u he)
  | none =>
    rw [he] at hs
    simp only [get_without] at hs
    by_cases hw : s ∈ ws'
    · simp [hw] at hs
    · simp only [hw, if_false] at hs
      rw [h'.same s hw]
      exact ha s v hs

theorem join_sound {nt : Nat} {x y : Code} (ihx : SoundC P nt x) (ihy : SoundC P nt y) {st : List (Nat × JSh)} {ax ay : Ann} {r : Option Nat} {env : Env} {ds : List Nat} {w : World} {K : Exit → Env → List Nat → World → Prop}
    {n : Nat} {Q : Exit → Act → World → Prop} {ws : List Nat} {a0 a : Act} (h : den P nt (.seq x y) r (.join st ax ay) env ds w K) (ha : Aft nt (mkD ds) ws a0 env a) (hws : ∀ s ∈ writes (.seq x y), s ∈ ws)
    (hQ : ∀ e env' ds' w' a', Aft nt (mkD ds') ws a0 env' a' → (hasRng (.seq x y) = false → ds' = ds) → K e env' ds' w' → Q e a' w') : (Code.seq x y).wpIn (Fr r) n P Q a w := by
  have hwx : ∀ s ∈ writes x, s ∈ ws := fun s hs => hws s (by simp [writes, hs])
  have hwy : ∀ s ∈ writes y, s ∈ ws := fun s hs => hws s (by simp [writes, hs])
  simp only [den] at h
  cases hr : hasRng x with
  | false =>
    rw [hr] at h
    simp only [cond_false, JoinP] at h
    refine wpIn_seq (ihx r ax env ds w _ n _ (writes x) a a h ha.self (fun s hs => hs) ?_)
    intro e env' ds' w' a' ha' hds hk
    have hds := hds hr
    subst hds
    cases e with
    | normal =>
      obtain ⟨s', hb, hs'⟩ := getJ_elim _ _ _ hk
      refine ihy r ay _ ds' w' K n Q ws a0 a' hb ((ha.trans ha' hwx).env (agr_join ha.agr ha' hs')) hwy ?_
      intro e2 env2 ds2 w2 a2 ha2 hds2 hk2
      refine hQ _ _ _ _ _ ha2 (fun hx => ?_) hk2
      simp only [hasRng, Bool.or_eq_false_iff] at hx
      exact hds2 hx.2
    | _ => exact hQ _ _ _ _ _ (ha.trans ha' hwx) (fun _ => rfl) hk
  | true =>
    rw [hr] at h
    simp only [cond_true, JoinP] at h
    refine wpIn_seq (ihx r ax env ds w _ n _ (writes x) a a h ha.self (fun s hs => hs) ?_)
    intro e env' ds' w' a' ha' _ hk
    cases e with
    | normal =>
      obtain ⟨s', hb, hs'⟩ := getJ_elim _ _ _ hk
      refine ihy r ay _ ds' w' K n Q ws a0 a' hb ((ha.trans ha' hwx).env (agr_join ha.agr ha' hs')) hwy ?_
      intro e2 env2 ds2 w2 a2 ha2 hds2 hk2
      refine hQ _ _ _ _ _ ha2 (fun hx => ?_) hk2
      simp [hasRng, hr] at hx
    | _ => exact hQ _ _ _ _ _ (ha.trans ha' hwx) (fun hx => by simp [hasRng, hr] at hx) hk

theorem loop_sound {nt : Nat} {c : Code} (ih : SoundC P nt c) : SoundC P nt (.loop c) := by
  intro r an env ds w K n Q ws a0 a h ha hws hQ
  cases an with
  | loop st x =>
    simp only [den] at h
    cases hr : hasRng c with
    | false =>
      rw [hr] at h
      simp only [cond_false] at h
      obtain ⟨s0, ⟨I, h0, hstep⟩, hs0⟩ := getS_elim _ _ _ h
      refine wpIn_loop_ghost (fun m a' w' => ∃ s : DenT st, I m s w' ∧ Aft nt (mkD ds) ws a0 (encS st s ++ without (writes c) env) a') ?_ ?_
      · obtain ⟨m, hm⟩ := h0
        exact ⟨m, s0, hm, ha.env (agr_loop0 _ ha.agr hs0)⟩
      · rintro m a1 w1 ⟨s, hI, ha1⟩
        refine ih r x _ ds w1 _ n _ (writes c) a1 a1 (hstep m s w1 hI) ha1.self (fun s hs => hs) ?_
        intro e env' ds' w' a' ha' hds hk
        have hds := hds hr
        subst hds
        cases e with
        | normal =>
          obtain ⟨s', ⟨m', hlt, hI'⟩, hs'⟩ := getS_elim _ _ _ hk
          exact ⟨m', hlt, s', hI', (ha1.trans ha' hws).env (agr_loop ha1 ha' hs')⟩
        | _ => exact hQ _ _ _ _ _ (ha1.trans ha' hws) (fun _ => rfl) hk
    | true =>
      rw [hr] at h
      simp only [cond_true] at h
      obtain ⟨s0, ⟨I, h0, hstep⟩, hs0⟩ := getS_elim _ _ _ h
      refine wpIn_loop_ghost (fun m a' w' => ∃ s : DenT st × List Nat, I m s w' ∧ Aft nt (mkD s.2) ws a0 (encS st s.1 ++ without (writes c) env) a') ?_ ?_
      · obtain ⟨m, hm⟩ := h0
        exact ⟨m, (s0, ds), hm, ha.env (agr_loop0 _ ha.agr hs0)⟩
      · rintro m a1 w1 ⟨s, hI, ha1⟩
        refine ih r x _ s.2 w1 _ n _ (writes c) a1 a1 (hstep m s w1 hI) ha1.self (fun s hs => hs) ?_
        intro e env' ds' w' a' ha' _ hk
        cases e with
        | normal =>
          obtain ⟨s', ⟨m', hlt, hI'⟩, hs'⟩ := getS_elim _ _ _ hk
          exact ⟨m', hlt, (s', ds'), hI', (ha1.trans ha' hws).env (agr_loop ha1 ha' hs')⟩
        | _ => exact hQ _ _ _ _ _ (ha1.trans ha' hws) (fun hx => by simp [hasRng, hr] at hx) hk
  | _ => exact h.elim

theorem enterLoop_run {fn : FuncId} {tmps : Array Value} {ps : Array Tmp} {assign body : Code} {w : World} :
    (Instr.enterLoop fn tmps ps assign body none).run P w =
      .ok (w.heap.size + 1, [{ target := .collected w.heap.size, args := #[] }])
        ((w.alloc (.deferred (some []))).alloc (.loop { state := .ready, pending := none, fn := fn, tmps := tmps, params := ps, assign := assign, body := body, defers := w.heap.size })) := by
  simp [Instr.enterLoop]

theorem enterLoop_run_in {fn : FuncId} {tmps : Array Value} {ps : Array Tmp} {assign body : Code} {w : World} {l₀ : Nat} {lp : Loop} (h : w.heap[l₀]? = some (.loop lp)) :
    (Instr.enterLoop fn tmps ps assign body (some l₀)).run P w =
      .ok (w.heap.size, []) (w.alloc (.loop { state := .ready, pending := none, fn := fn, tmps := tmps, params := ps, assign := assign, body := body, defers := lp.defers })) := by
  simp [Instr.enterLoop, run_getLoop h]

theorem jump_none {e : Exit} {j : Option Code} (h : jumpOf e = some j) : j.isNone = isNormal e := by
  cases e <;> simp [jumpOf] at h <;> subst h <;> rfl

theorem round_sound {nt : Nat} {assign body : Code} (ih1 : SoundC P nt assign) (ih2 : SoundC P nt body) {l : Nat} {fn : FuncId} {tmps : Array Value} {ps : Array Tmp} {dfr : Nat} {ks : List Shape} {x y : Ann} {env : Env}
    (hlen : Nat.beq ps.toList.length ks.length = true) (hnd : noDup ps.toList = true) (hlt : ∀ s ∈ ps.toList, s < nt) (hra : hasRng assign = false) (hsz : tmps.size = nt) (hag : ∀ s v, env.get s = some v → tmps[s]? = some v)
    {x' : DenR ks} {W : World} {p : Option Code} {R : Bool → World → Prop} (hL : LL l fn tmps ps assign body dfr .ready p W)
    (h : den P nt assign (some l) x (encP ps.toList (encR ks x') ++ env) [] W fun e env1 _ W1 => match e with
        | .normal => W1.heap[l]? = W.heap[l]? ∧ den P nt body (some l) y env1 [] (busyW W1 l) fun e _ _ W2 =>
            (LL l fn tmps ps assign body dfr .busy p W2 ∧ ∃ j, jumpOf e = some j ∧ R (isNormal e) (setLoop W2 l (if isNormal e then .ready else .done) j))
        | _ => False) : YieldP P l (encR ks x') W R := by
  have hkl : ∀ (ks : List Shape) (x : DenR ks), (encR ks x).length = ks.length := by
    intro ks
    induction ks with
    | nil => intro x; rfl
    | cons k ks ih => intro x; simp [encR, ih]
  have hl2 : (encR ks x').length = ps.size := by
    rw [hkl]
    have := Nat.eq_of_beq_eq_true hlen
    simpa using this.symm
  refine ⟨fn, layP ps.toList (encR ks x') tmps, assign, body, ?_, ?_⟩
  · have h1 : (ps.zip (⟨encR ks x'⟩ : Array Value)).foldl (fun (tmps : Array Value) (x : Tmp × Value) => tmps.setIfInBounds x.1 x.2) tmps = layP ps.toList (encR ks x') tmps := by
      rw [← Array.foldl_toList, Array.toList_zip]
    simp only [Instr.yield, Sem.run_bind, run_getLoop hL, Result.andThen_ok]
    have h2 : ¬ ((⟨encR ks x'⟩ : Array Value).size ≠ ps.size) := by simpa using hl2
    simp only [h2, if_false, Sem.run_pure]
    congr 2
  · refine roundIn_of_wpIn (F := Fence.wide) trivial ?_
    have hA : Aft nt (mkD []) (writes assign) { tmps := layP ps.toList (encR ks x') tmps, defers := [] } (encP ps.toList (encR ks x') ++ env) { tmps := layP ps.toList (encR ks x') tmps, defers := [] } := by
      refine ⟨fun s v hs => ?_, by simp [layP_size, hsz], rfl, fun _ _ => rfl⟩
      rw [get_append] at hs
      cases he : Env.get (encP ps.toList (encR ks x')) s with
      | some u =>
        rw [he] at hs
        simp only [Option.some.injEq] at hs
        subst hs
        exact layP_get _ _ _ hnd (fun s hs => by rw [hsz]; exact hlt s hs) s u he
      | none =>
        rw [he] at hs
        have hn : s ∉ ps.toList := by
          intro hm
          have : ∀ (ps : List Nat) (vs : List Value), ps.length = vs.length → s ∈ ps → Env.get (encP ps vs) s ≠ none := by
            intro ps
            induction ps with
            | nil => intro vs _ h; cases h
            | cons q ps ih =>
              intro vs hl hm
              cases vs with
              | nil => simp at hl
              | cons v vs =>
                simp only [encP, get_cons]
                by_cases e : q = s
                · simp [e]
                · simp only [e, if_false]
                  refine ih vs (by simpa using hl) ?_
                  cases hm with
                  | head => exact absurd rfl e
                  | tail _ h => exact h
          exact this _ _ (by simpa using hl2.symm) hm he
        show (layP ps.toList (encR ks x') tmps)[s]? = some v
        rw [layP_notin _ _ _ _ hn]
        exact hag s v hs
    refine ih1 (some l) x _ [] W _ 0 _ (writes assign) _ _ h hA (fun s hs => hs) ?_
    intro e env1 ds1 W1 a1 ha1 hds1 hk
    have hds1 := hds1 hra
    subst hds1
    cases e with
    | normal =>
      obtain ⟨hsame, hk⟩ := hk
      have hL1 : W1.heap[l]? = some (.loop { state := .ready, pending := p, fn := fn, tmps := tmps, params := ps, assign := assign, body := body, defers := dfr }) := hsame.trans hL
      refine ⟨busyW W1 l, run_beginRound hL1 rfl, ?_⟩
      have ha1' : Aft nt (mkD []) (writes body) a1 env1 a1 := ha1.self
      refine ih2 (some l) y env1 [] _ _ 0 _ (writes body) a1 a1 hk ha1' (fun s hs => hs) ?_
      intro e env2 ds2 W2 a2 ha2 _ hk2
      obtain ⟨hL2, j, hj, hR⟩ := hk2
      have hend := run_endRound (P := P) hL2 j
      rw [jump_none hj] at hend
      have hR' : ∃ b : Bool, Ending.returned (.bool (isNormal e)) = .returned (.bool b) ∧ R b (setLoop W2 l (if isNormal e then .ready else .done) j) := ⟨_, rfl, hR⟩
      cases e <;> simp only [jumpOf, Option.some.injEq] at hj <;> first
        | (subst hj; exact ⟨_, _, hend, hR'⟩)
        | (cases hj; done)
    | _ => exact hk.elim

theorem callFn_ok (hP : POk P) {f : FuncId} {first cap : Array Value} {l : Nat} {W : World} (hb : hasBody P f = true) {a : Act} {g : Operand} (hg : a.eval g = .func (.func f) first cap) :
    ∃ d, (resolve a.eval (rangeCall g l) 0).run P W = .ok d W ∧ (invoke d.target d.args).run P W = .ok (.enter f ⟨first.toList ++ (Value.func (.yield l) #[] #[] :: cap.toList)⟩) W := by
  refine ⟨{ target := .fn (.func f) cap, args := first ++ #[.func (.yield l) #[] #[]] }, ?_, ?_⟩
  · simp only [resolve, hg, Deferred.ofValue, Sem.run_pure, List.map_toArray, List.map_cons, List.map_nil]; rfl
  · have e : first ++ #[Value.func (.yield l) #[] #[]] ++ cap = ⟨first.toList ++ (Value.func (.yield l) #[] #[] :: cap.toList)⟩ := by apply Array.toList_inj.mp; simp
    simp only [invoke, e]
    exact callFunc_run hP hb _ _

theorem findK_elim {id : Nat} {w : World} {K : Exit → World → Prop} : ∀ (l : List Nat), findK id (l.map fun id => (id, K (.exit id))) w → K (.exit id) w := by
  intro l
  induction l with
  | nil => intro h; exact h.elim
  | cons i l ih =>
    intro h
    simp only [List.map_cons, findK] at h
    cases hb : Nat.beq i id with
    | true =>
      rw [hb] at h
      have := Nat.eq_of_beq_eq_true hb
      subst this
      exact h
    | false => rw [hb] at h; exact ih h

theorem jumpK_wpIn {K : Exit → World → Prop} {l : List Nat} {p : Option Code} {w : World} (h : jumpK (K .normal) (K .ret) (l.map fun id => (id, K (.exit id))) p w) {F : Fence} {n : Nat} {Q : Exit → Act → World → Prop} {a : Act}
    (hQ : ∀ e w, K e w → Q e a w) : (p = none → Q .normal a w) ∧ ∀ c, p = some c → c.wpIn F n P Q a w := by
  cases p with
  | none => exact ⟨fun _ => hQ _ _ h, fun c hc => by cases hc⟩
  | some c =>
    refine ⟨fun hc => by (cases hc), fun c' hc => ?_⟩
    cases hc
    cases c <;> first | exact h.elim | exact wpIn_ret (hQ _ _ h) | exact wpIn_exit (hQ _ _ (findK_elim l h))

theorem rng_sound (hP : POk P) {nt : Nat} {g : Operand} {ps : Array Tmp} {assign body : Code} (ih1 : SoundC P nt assign) (ih2 : SoundC P nt body) : SoundC P nt (.rangeFunc g ps assign body) := by
  intro r an env ds w K n Q ws a0 a h ha hws hQ
  cases an with
  | rng ks x y =>
    simp only [den] at h
    cases hb : (!hasRng assign && (Nat.beq ps.toList.length ks.length && (noDup ps.toList && ps.toList.all fun s => Nat.blt s nt))) with
    | false => rw [hb] at h; exact h.elim
    | true =>
      rw [hb] at h
      simp only [cond_true] at h
      simp only [Bool.and_eq_true, List.all_eq_true, Nat.blt_eq, Bool.not_eq_true'] at hb
      obtain ⟨hra, hlen, hnd, hlt⟩ := hb
      obtain ⟨hr0, h⟩ := h
      split at h
      · rename_i f first cap hv
        obtain ⟨hbody, h⟩ := h
        have hg : a.eval g = .func (.func f) first cap := by
          cases hx : evO env g with
          | none => simp [ev, hx, undef] at hv
          | some v =>
            have := evO_eval ha.agr hx
            simp only [ev, hx, Option.getD_some] at hv
            rw [this, hv]
        refine wpIn_rangeFunc fun fn _ => ?_
        have mk : ∀ (l : Nat) (mark : List Deferred) (w1 : World) (dfr : Nat), (Instr.enterLoop fn a.tmps ps assign body (Fr r).round).run P w = .ok (l, mark) w1 →
            (l = if r.isNone then w.heap.size + 1 else w.heap.size) → w1.heap.size = l + 1 → (∀ b, b < w.heap.size → w1.heap[b]? = w.heap[b]?) → (w1.os = w.os ∧ w1.tape = w.tape ∧ w1.output = w.output) → (r = none → w1.heap[w.heap.size]? = some (.deferred (some []))) →
            LL l fn a.tmps ps assign body dfr .ready none w1 → mark ++ a.defers = mkD (cond r.isNone (w.heap.size :: ds) ds) →
            ∃ (l : Nat) (mark : List Deferred) (w₁ : World) (d : Deferred) (w₁' : World) (f : FuncId) (args : Array Value) (w₂ : World),
              (Instr.enterLoop fn a.tmps ps assign body (Fr r).round).run P w = .ok (l, mark) w₁ ∧ (resolve a.eval (rangeCall g l) 0).run P w₁ = .ok d w₁' ∧
              (∀ f', Target.leads P w₁' d.target d.args = some f' → (Fr r).fn f') ∧ (invoke d.target d.args).run P w₁' = .ok (.enter f args) w₂ ∧ ((Fr r).depth.isSome = true → 1 ≤ n) ∧
              CallsIn (Fr r) (n - 1) P f args w₂ (rangePost (Fr r) n P l Q { a with defers := mark ++ a.defers }) := by
          intro l mark w1 dfr he hl hsz hold hio hmk hLL hds
          obtain ⟨d, hres, hinv⟩ := callFn_ok hP (l := l) (W := w1) hbody hg
          refine ⟨l, mark, w1, d, w1, f, _, w1, he, hres, fun _ _ => trivial, hinv, fun hx => by simp [Fr, Fence.wide] at hx, ?_⟩
          have hctx := h l (LL l fn a.tmps ps assign body dfr) w1 {
            at_ := hl
            size := hsz
            old := hold
            io := hio
            marks := hmk
            ready := hLL
            frame := fun st p W W' hL hs => hs.trans hL
            set := fun st p st' p' W hL => setLoop_at hL st' p'
            busy := fun p W hL => busyW_at hL
            isLoop := fun st p W hL => ⟨_, hL⟩
            yield := fun x' W p R hL hx => round_sound ih1 ih2 hlen hnd hlt hra ha.size ha.agr hL hx }
          have hc : CallsIn Fence.wide (n - 1) P f _ w1 _ := callsIn_wide.2 (callP_ran hctx)
          refine CallsIn.mono (F := Fr r) hc fun e w2 hx => ?_
          obtain ⟨v, rfl, st, p, hL, hst, hj⟩ := hx
          refine ⟨p, _, run_endLoop hL hst, ?_⟩
          have hj2 := jumpK_wpIn (P := P) (F := Fr r) (n := n) (Q := Q) (a := { a with defers := mark ++ a.defers }) (K := fun e w' => K e env (cond r.isNone (w.heap.size :: ds) ds) w') (l := exitsOf body) hj fun e w' hk =>
            hQ _ _ _ _ _ ⟨ha.agr, ha.size, hds, ha.same⟩ (fun hx => by simp [hasRng] at hx) hk
          clear hj hctx hc
          cases p with
          | none => exact hj2.1 rfl
          | some c => exact hj2.2 c rfl
        cases r with
        | none =>
          refine mk (w.heap.size + 1) _ _ w.heap.size enterLoop_run rfl (by simp) (fun b hb => ?_) ⟨rfl, rfl, rfl⟩ (fun _ => ?_) ?_ (by simp [mkD, ha.defers])
          · have h1 : b ≠ w.heap.size + 1 := by omega
            have h2 : b ≠ w.heap.size := by omega
            simp [World.alloc, -World.alloc_eq, Array.getElem?_push, h1, h2]
          · simp [World.alloc, -World.alloc_eq, Array.getElem?_push]
          · have := World.alloc_heap_new (w.alloc (.deferred (some []))) (.loop { state := .ready, pending := none, fn := fn, tmps := a.tmps, params := ps, assign := assign, body := body, defers := w.heap.size })
            rw [World.size_alloc] at this
            exact this
        | some l₀ =>
          obtain ⟨lp, hlp⟩ := hr0 l₀ rfl
          refine mk w.heap.size _ _ lp.defers (enterLoop_run_in hlp) rfl (by simp) (fun b hb => ?_) ⟨rfl, rfl, rfl⟩ (fun hx => by cases hx) ?_ (by simp [ha.defers])
          · have h2 : b ≠ w.heap.size := by omega
            simp [World.alloc, -World.alloc_eq, Array.getElem?_push, h2]
          · simp [LL, World.alloc, -World.alloc_eq]
      · exact h.elim
  | _ => exact h.elim

theorem den_sound (hP : POk P) (nt : Nat) : ∀ c, SoundC P nt c := by
  intro c
  induction c with
  | skip => intro r an env ds w K n Q ws a0 a h ha hws hQ; exact wpIn_skip (hQ _ _ _ _ _ ha (fun _ => rfl) h)
  | label l => intro r an env ds w K n Q ws a0 a h ha hws hQ; exact wpIn_label (hQ _ _ _ _ _ ha (fun _ => rfl) h)
  | ret => intro r an env ds w K n Q ws a0 a h ha hws hQ; exact wpIn_ret (hQ _ _ _ _ _ ha (fun _ => rfl) h)
  | exit id => intro r an env ds w K n Q ws a0 a h ha hws hQ; exact wpIn_exit (hQ _ _ _ _ _ ha (fun _ => rfl) h)
  | region id ops draw =>
    intro r an env ds w K n Q ws a0 a h ha hws hQ
    simp only [den] at h
    cases draw with
    | true => exact drawnDen_sound hP hws (fun env a w ha hk => hQ _ _ _ _ _ ha (fun _ => rfl) hk) ha h
    | false =>
      refine wpIn_region ?_
      have := opsDen_sound (r := r) (n := n) (Q := Q) hP hws (fun env a w ha hk => hQ _ _ _ _ _ ha (fun _ => rfl) hk) ops.toList 0 env a w (by simp) ha h
      rw [List.range_eq_range']
      simpa using this
  | seq x y ihx ihy =>
    intro r an env ds w K n Q ws a0 a h ha hws hQ
    cases an with
    | seq ax ay =>
      simp only [den] at h
      refine wpIn_seq (ihx r ax env ds w _ n _ ws a0 a h ha (fun s hs => hws s (by simp [writes, hs])) ?_)
      intro e env' ds' w' a' ha' hds hk
      cases e with
      | normal =>
        refine ihy r ay env' ds' w' K n Q ws a0 a' hk ha' (fun s hs => hws s (by simp [writes, hs])) ?_
        intro e2 env2 ds2 w2 a2 ha2 hds2 hk2
        refine hQ _ _ _ _ _ ha2 (fun hx => ?_) hk2
        simp only [hasRng, Bool.or_eq_false_iff] at hx
        rw [hds2 hx.2, hds hx.1]
      | _ =>
        refine hQ _ _ _ _ _ ha' (fun hx => ?_) hk
        simp only [hasRng, Bool.or_eq_false_iff] at hx
        exact hds hx.1
    | join st ax ay => exact join_sound ihx ihy h ha hws hQ
    | _ => exact h.elim
  | cond c x y ihx ihy =>
    intro r an env ds w K n Q ws a0 a h ha hws hQ
    cases an with
    | cond ax ay =>
      simp only [den] at h
      split at h
      · rename_i t ht
        refine wpIn_cond (evO_eval ha.agr ht) ?_
        cases t with
        | true =>
          refine ihx r ax env ds w K n Q ws a0 a h ha (fun s hs => hws s (by simp [writes, hs])) fun e env' ds' w' a' ha' hds hk => hQ _ _ _ _ _ ha' (fun hx => ?_) hk
          simp only [hasRng, Bool.or_eq_false_iff] at hx
          exact hds hx.1
        | false =>
          refine ihy r ay env ds w K n Q ws a0 a h ha (fun s hs => hws s (by simp [writes, hs])) fun e env' ds' w' a' ha' hds hk => hQ _ _ _ _ _ ha' (fun hx => ?_) hk
          simp only [hasRng, Bool.or_eq_false_iff] at hx
          exact hds hx.2
      · exact h.elim
    | _ => exact h.elim
  | block id x ihx =>
    intro r an env ds w K n Q ws a0 a h ha hws hQ
    cases an with
    | blk ax =>
      simp only [den] at h
      refine wpIn_block (ihx r ax env ds w _ n _ ws a0 a h ha hws ?_)
      intro e env' ds' w' a' ha' hds hk
      cases e with
      | exit id' =>
        simp only at hk
        simp only [Exit.inBlock]
        by_cases hid : id' = id
        · subst hid
          have : Nat.beq id' id' = true := by simp
          rw [this] at hk
          rw [if_pos rfl]
          exact hQ _ _ _ _ _ ha' hds hk
        · have : Nat.beq id' id = false := by cases hx : Nat.beq id' id; rfl; exact absurd (Nat.eq_of_beq_eq_true hx) hid
          rw [this] at hk
          rw [if_neg hid]
          exact hQ _ _ _ _ _ ha' hds hk
      | _ => exact hQ _ _ _ _ _ ha' hds hk
    | _ => exact h.elim
  | loop x ihx => exact loop_sound ihx
  | rangeFunc g ps assign body ih1 ih2 => exact rng_sound hP ih1 ih2
  | scope x ihx =>
    intro r an env ds w K n Q ws a0 a h ha hws hQ
    simp only [den] at h
    refine wpIn_scope_straight (ihx r an env ds w _ n _ ws a0 a h ha hws ?_)
    intro e env' ds' w' a' ha' hds hk
    cases e with
    | goto l => exact hk.elim
    | _ => exact hQ _ _ _ _ _ ha' hds hk
  | goto l => intro r an env ds w K n Q ws a0 a h ha hws hQ; exact h.elim
  | refuse y => intro r an env ds w K n Q ws a0 a h ha hws hQ; exact h.elim
end
end Gp
