import Derived.Test.YtmcdmhegjhcjhaaGreatRn15
/- A machine that runs closed code over named blocks: code and calls are sound. -/
namespace Gp.Rn
open Go Gp

theorem memN_iff (x : Nat) : ∀ l : List Nat, memN x l = true ↔ x ∈ l
  | [] => by simp [memN]
  | y :: r => by
    unfold memN
    by_cases h : y = x
    · rw [show Nat.beq y x = true by rw [h]; exact Nat.beq_refl _, cond_true]; simp [h]
    · have hb : Nat.beq y x = false := by
        cases hb : Nat.beq y x with
        | false => rfl
        | true => exact absurd (Nat.eq_of_beq_eq_true hb) h
      rw [hb, cond_false, memN_iff x r, List.mem_cons]
      exact ⟨.inr, fun g => g.resolve_left fun e => h e.symm⟩

inductive PE (ρ : Nm) : AE → Env → Prop
  | nil : PE ρ [] []
  | cons {t a v l m} (h : VR ρ a v) (h' : PE ρ l m) : PE ρ ((t, a) :: l) ((t, v) :: m)
theorem PE.mono {ρ ρ' : Nm} {l : AE} {m : Env} (h : PE ρ l m) (hl : Le ρ ρ') : PE ρ' l m := by
  induction h with
  | nil => exact .nil
  | cons h _ ih => exact .cons (h.mono hl) ih
theorem PE.er {ρ : Nm} {l : AE} {m : Env} (h : PE ρ l m) {e : AE} {env : Env} (he : ER ρ e env) : ER ρ (l ++ e) (m ++ env) := by
  induction h with
  | nil => exact he
  | cons h _ ih => exact ih.cons h _

section
variable {w0 : World} {P : Program} {A : Nat → Option Ann} {prev : RunT}

theorem argE_ok {ρ : Nm} : ∀ {i : Nat} {a : List AV} {v : List Value}, VsR ρ a v → PE ρ (argE i a) (argEnv i v)
  | _, [], _, h => by cases h; exact .nil
  | i, x :: a, _, h => by
    cases h with
    | cons h h' => exact .cons h (argE_ok h')

theorem encPA_ok {ρ : Nm} : ∀ {ps : List Nat} {a : List AV} {v : List Value}, VsR ρ a v → PE ρ (encPA ps a) (encP ps v)
  | [], _, _, _ => .nil
  | p :: ps, [], _, h => by cases h; exact .nil
  | p :: ps, x :: a, _, h => by
    cases h with
    | cons h h' => exact .cons h (encPA_ok h')

theorem closeC_ok {ρ : Nm} {K : World → Prop} : ∀ {ads ds : List Nat} {s : St} {w : World} {k : St → Bool}, closeC ads s k = true → DR ρ ads ds → Rel w0 ρ s w → (∀ s' w', k s' = true → Rel w0 ρ s' w' → K w') → CloseP ds w K
  | [], [], s, w, k, h, _, hr, hK => hK s w h hr
  | D :: ads, b :: ds, s, w, k, h, hd, hr, hK => by
    obtain ⟨⟨x, hx, rfl⟩, hd⟩ := hd
    unfold closeC at h
    split at h
    · rename_i hg
      obtain ⟨s', h, p1, p2⟩ := putB_ok h
      refine ⟨hr.br D _ x hg hx, closeC_ok h hd (hr.chg hx hg trivial p1 p2 (Fr8.putDef w x.b _) trivial) hK⟩
    · cases h
  | [], _ :: _, _, _, _, _, h, _, _ => h.elim
  | _ :: _, [], _, _, _, _, h, _, _ => h.elim

theorem resC_ok {ρ : Nm} {s : St} {w : World} {e : AE} {env : Env} {φ : List Value → Prop} (hr : Rel w0 ρ s w) (he : ER ρ e env) : ∀ {rs : List ResultVar} {vs : List AV}, resC P rs e s = some vs → (∀ us, VsR ρ vs us → φ us) → resDen P rs env w φ
  | [], vs, h, hp => by cases h; exact hp [] .nil
  | .tmp t :: r, vs, h, hp => by
    unfold resC at h
    split at h
    · rename_i v l hv hl
      cases h
      obtain ⟨u, h1, h2⟩ := he t v hv
      unfold resDen
      rw [h1]
      exact resC_ok (φ := fun vs => φ (u :: vs)) hr he hl fun us hus => hp _ (.cons h2 hus)
    · cases h
  | .cell a t :: r, vs, h, hp => by
    unfold resC at h
    unfold resDen
    split at h
    · rename_i i o kd n ha hs hn
      obtain ⟨u, h1, h2⟩ := he a _ ha
      cases h2 with
      | ptr hx =>
      rw [h1, hs, hn]
      dsimp only
      cases hb : Nat.beq 1 n with
      | false => rw [hb] at h; cases h
      | true =>
        rw [hb, cond_true] at h
        show cond (Nat.beq 1 n) _ _
        rw [hb, cond_true]
        split at h
        · rename_i v l hv hl
          cases hk : kOk kd v with
          | false => rw [hk] at h; cases h
          | true =>
            rw [hk] at h
            cases h
            obtain ⟨us, g1, g2, g3, _⟩ := rdC_ok hr hx hv
            cases g1 with
            | cons g g' =>
            cases g'
            obtain ⟨y, rfl⟩ := kOk_ok g hk
            have := g3 0 (by simp)
            rw [add_mk] at this
            exact ⟨y, this, resC_ok (φ := fun vs => φ (_ :: vs)) hr he hl fun us hus => hp _ (.cons g hus)⟩
        · cases h
    · rename_i i o ks n ha hs hn
      obtain ⟨u, h1, h2⟩ := he a _ ha
      cases h2 with
      | ptr hx =>
      rw [h1, hs, hn]
      dsimp only
      cases hb : Nat.beq ks.length n with
      | false => rw [hb] at h; cases h
      | true =>
        rw [hb, cond_true] at h
        show cond (Nat.beq ks.length n) _ _
        rw [hb, cond_true]
        split at h
        · rename_i v l hv hl
          cases hk : ksOk ks v with
          | false => rw [hk] at h; cases h
          | true =>
            rw [hk] at h
            cases h
            obtain ⟨us, g1, g2, g3, _⟩ := rdC_ok hr hx hv
            exact LdN_of ks v us 0 g1 hk (fun j hj => by rw [Nat.zero_add]; exact g3 j hj) (resC_ok (φ := fun vs => φ (_ :: vs)) hr he hl fun us' hus => hp _ (.cons (.agg g1) hus))
        · cases h
    · cases h

theorem fn_soundV (hP : POk P) {f : FuncId} {fn : Func} {c : Code} (hf : P.funcs[f]? = some fn) (hb : fn.body = some c) (an : Ann) (args : List Value) (hl : args.length ≤ fn.ntmps) (w : World) (φ : List Value → World → Prop)
    (h : den P fn.ntmps c none an (argEnv 0 args) [] w fun e env ds w => match e with
      | .normal => CloseP ds w fun w' => resDen P fn.results.toList env w' fun vs => φ vs w'
      | .ret => CloseP ds w fun w' => resDen P fn.results.toList env w' fun vs => φ vs w'
      | _ => False) : Calls P f ⟨args⟩ w fun e w' => ∃ vs, e = .returned (tup vs) ∧ φ vs w' := by
  refine (callsIn_wide (n := 0)).1 ?_
  refine callsIn_of_wp_marks (F := Fr none) hf hb trivial ?_ rfl
  have hsz : ((⟨args⟩ : Array Value) ++ Array.replicate (fn.ntmps - (⟨args⟩ : Array Value).size) undef).size = fn.ntmps := by
    simp; omega
  refine den_sound hP fn.ntmps c none an _ [] w _ 0 _ (writes c) _ _ h ⟨fun s v hs => ?_, hsz, rfl, fun _ _ => rfl⟩ (fun s hs => hs) ?_
  · obtain ⟨_, h2⟩ := argEnv_get _ _ _ _ hs
    have hlt := (List.getElem?_eq_some_iff.1 h2).1
    simp only [Nat.sub_zero] at h2 hlt
    show ((⟨args⟩ : Array Value) ++ Array.replicate (fn.ntmps - (⟨args⟩ : Array Value).size) undef)[s]? = some v
    rw [Array.getElem?_append_left (by simpa using hlt)]
    simpa using h2
  · intro e env' ds' w' a' ha' _ hk
    have hcl : ∀ w', CloseP ds' w' (fun w' => resDen P fn.results.toList env' w' fun vs => φ vs w') →
        LeavesInM (Fr none) 0 P fn a'.tmps (fun e w' => ∃ vs, e = .returned (tup vs) ∧ φ vs w') a'.defers .returning w' := by
      intro w' hw'
      rw [ha'.defers]
      exact close_leaves ha'.agr (φ := φ) (fun vs w hd => ⟨vs, rfl, hd⟩) ds' w' hw'
    cases e with
    | normal => exact hcl w' hk
    | ret => exact hcl w' hk
    | _ => exact hk.elim

theorem callC_ok (hP : POk P) (hp : CodeOk P w0 prev) {Γ : LCx} {f : FuncId} {args : List AV} {s : St} {k : List AV → St → Bool} {ρ : Nm} {w : World} {args' : List Value} {K : List Value → World → Prop} (h : callC P A prev Γ f args s k = true) (hg : GR P ρ Γ) (hr : Rel w0 ρ s w) (ha : VsR ρ args args')
    (hK : ∀ rs s', k rs s' = true → ∀ ρ' w' rs', Le ρ ρ' → Rel w0 ρ' s' w' → VsR ρ' rs rs' → K rs' w') : Calls P f ⟨args'⟩ w fun e w' => ∃ vs, e = .returned (tup vs) ∧ K vs w' := by
  unfold callC at h
  split at h
  · rename_i fn an hf han
    split at h
    · rename_i c hb
      obtain ⟨hl, h⟩ := cond_ok h
      have hl := Nat.le_of_ble_eq_true hl
      rw [ha.len] at hl
      refine fn_soundV hP hf hb an args' hl w K ?_
      have he : ER ρ (argE 0 args) (argEnv 0 args') := by
        have := (argE_ok (i := 0) ha).er (e := []) (env := []) ER.nil
        simpa using this
      refine hp _ _ _ none _ _ _ _ _ _ h ρ w _ [] _ hr he trivial hg trivial ?_
      intro e ae ads s' hk ρ' w' env' ds' l' r' he' hd'
      have fin : (closeC ads s' fun s'' => match resC P fn.results.toList ae s'' with
          | some vs => k vs s''
          | none => false) = true → CloseP ds' w' fun w' => resDen P fn.results.toList env' w' fun vs => K vs w' := by
        intro hk
        refine closeC_ok hk hd' r' fun s'' w'' hk r'' => ?_
        split at hk
        · rename_i vs hvs
          exact resC_ok r'' he' hvs fun us hus => hK _ _ hk ρ' w'' us l' r'' hus
        · cases hk
      cases e with
      | normal => exact fin hk
      | ret => exact fin hk
      | _ => cases hk
    · cases h
  · cases h

theorem asgC_ok {nt : Nat} : ∀ {c : Code} {an : Ann} {r : Option Nat} {e : AE} {env : Env} {s : St} {w : World} {ρ : Nm} {ds : List Nat} {k : AE → St → Bool} {K : Exit → Env → List Nat → World → Prop}, asgC P nt c an e s k = true → Rel w0 ρ s w → ER ρ e env → KE true w0 ρ s w k (fun env' w' => K .normal env' ds w') → den P nt c r an env ds w K := by
  intro c
  induction c with
  | skip => intro an r e env s w ρ ds k K h hr he hK; exact hK _ _ h ρ w env (Le.refl ρ) hr he fun _ => Lp.refl ρ s w
  | region id ops draw =>
    intro an r e env s w ρ ds k K h hr he hK
    unfold asgC at h
    unfold den
    cases draw with
    | true => cases h
    | false =>
      rw [cond_false] at h
      rw [cond_false]
      exact opsC_ok (cb0_ok P w0 ρ) h (Le.refl ρ) hr he hK
  | seq a b iha ihb =>
    intro an r e env s w ρ ds k K h hr he hK
    unfold asgC at h
    unfold den
    split at h
    · rename_i x y
      dsimp only
      refine iha h hr he fun e1 s1 hk ρ1 w1 env1 l1 r1 he1 p1 => ?_
      dsimp only
      exact ihb hk r1 he1 (hK.step l1 p1)
    · cases h
  | _ => intro an r e env s w ρ ds k K h; cases h

theorem shsOk_enc {ρ : Nm} : ∀ {ks : List Shape} {a : List AV} {v : List Value}, VsR ρ a v → shsOk ks a = true → ∃ x : DenR ks, v = encR ks x
  | [], [], _, h, _ => by cases h; exact ⟨(), rfl⟩
  | [], _ :: _, _, _, g => by cases g
  | _ :: _, [], _, _, g => by cases g
  | k :: ks, y :: a, _, h, g => by
    cases h with
    | cons h h' =>
    rename_i v0 vs0
    unfold shsOk at g
    rw [Bool.and_eq_true] at g
    obtain ⟨x', rfl⟩ := shsOk_enc h' g.2
    have : ∃ x : ShT k, v0 = encSh k x := by
      have g1 := g.1
      cases k with
      | one kd => obtain ⟨x, rfl⟩ := kOk_ok h g1; exact ⟨x, rfl⟩
      | agg kk =>
        cases h with
        | agg h =>
          have hks : ∀ {ks : List Kind} {a : List AV} {v : List Value}, VsR ρ a v → ksOk ks a = true → ∃ x : DenK ks, v = encK ks x := by
            intro ks
            induction ks with
            | nil =>
              intro a v h g
              cases a with
              | nil => cases h; exact ⟨(), rfl⟩
              | cons _ _ => cases g
            | cons k ks ih =>
              intro a v h g
              cases h with
              | nil => cases g
              | cons h h' =>
                unfold ksOk at g
                rw [Bool.and_eq_true] at g
                obtain ⟨x, rfl⟩ := kOk_ok h g.1
                obtain ⟨x', rfl⟩ := ih h' g.2
                exact ⟨(x, x'), rfl⟩
          obtain ⟨x, rfl⟩ := hks h g1
          exact ⟨x, rfl⟩
        | _ => cases g1
    obtain ⟨x, rfl⟩ := this
    exact ⟨(x, x'), rfl⟩

theorem jEq_ok {a b : Jmp} (h : jEq a b = true) : a = b := by
  cases a <;> cases b <;> first | rfl | cases h | skip
  unfold jEq at h
  rw [Nat.eq_of_beq_eq_true h]

theorem yieldC_ok (hp : CodeOk P w0 prev) {Γ : LCx} {l : Nat} {args : List AV} {s : St} {k : Bool → St → Bool} {ρ : Nm} {w : World} {args' : List Value} {x : Loc} {K : Bool → World → Prop} (h : yieldC P prev Γ l args s k = true) (hg : GR P ρ Γ) (hr : Rel w0 ρ s w) (hx : ρ l = some x) (ha : VsR ρ args args')
    (hK : ∀ b s', k b s' = true → ∀ ρ' w', Le ρ ρ' → Rel w0 ρ' s' w' → K b w') : YieldP P x.b args' w K := by
  unfold yieldC at h
  split at h
  · rename_i i p hi hl
    obtain ⟨hsh, h⟩ := cond_ok h
    obtain ⟨xs, rfl⟩ := shsOk_enc ha hsh
    obtain ⟨x', env, hx', hE, hY⟩ := hg l i hi
    rw [hx] at hx'
    cases hx'
    obtain ⟨hL, hLo⟩ := hr.br l _ x hl hx
    refine hY xs w (codeJ p) K hL ?_
    unfold bodyD
    refine asgC_ok h hr ((encPA_ok ha).er hE) fun env1 s1 hk ρ1 w1 env1' l1 r1 he1 p1 => ?_
    dsimp only
    obtain ⟨q1, q2⟩ := p1 rfl l x .ready p hl hx
    refine ⟨q2, ?_⟩
    have hx1 := l1 _ _ hx
    obtain ⟨s2, hk, a1, a2⟩ := putB_ok hk
    obtain ⟨hL1, _⟩ := r1.br l _ x q1 hx1
    have r2 : Rel w0 ρ1 s2 (busyW w1 x.b) := r1.chg hx1 q1 trivial a1 a2 (Fr8.busyW w1 x.b) ⟨hLo.busy _ _ hL1, hLo⟩
    refine hp _ _ _ (some x.b) _ _ _ _ _ _ hk ρ1 (busyW w1 x.b) env1' [] _ r2 he1 trivial (hg.mono l1) ⟨x, hx1, rfl⟩ ?_
    intro e ae ads s3 hk ρ3 w3 env3 ds3 l3 r3 he3 hd3
    have hx3 := l3 _ _ hx1
    dsimp only at hk
    split at hk
    · rename_i p3 hg3
      obtain ⟨hj, hq⟩ := cond_ok hk
      clear hk
      have := jEq_ok hj
      subst this
      obtain ⟨hL3, _⟩ := r3.br l _ x hg3 hx3
      refine ⟨hL3, ?_⟩
      have fin : ∀ (st : LoopState) (j : Jmp) (b : Bool), (putB s3 l (.loop st j) fun s4 => k b s4) = true → K b (setLoop w3 x.b st (codeJ j)) := by
        intro st j b hk
        obtain ⟨s4, hk, b1, b2⟩ := putB_ok hk
        exact hK b s4 hk ρ3 _ (l1.trans l3) (r3.chg hx3 hg3 trivial b1 b2 (Fr8.setLoop w3 x.b st (codeJ j)) ⟨hLo.set _ _ _ _ _ hL3, hLo⟩)
      cases e with
      | normal => exact ⟨none, rfl, fin .ready .no true hq⟩
      | ret => exact ⟨some .ret, rfl, fin .done .ret false hq⟩
      | exit id => exact ⟨some (.exit id), rfl, fin .done (.ex id) false hq⟩
      | _ => cases hq
    · cases hk
  · cases h

theorem cbOf_ok (hP : POk P) (hp : CodeOk P w0 prev) {Γ : LCx} {ρ0 : Nm} (hg : GR P ρ0 Γ) : CbOk false P w0 ρ0 (cbOf P A prev Γ) :=
  ⟨fun f args s k ρ w args' K h hl hr ha hK => callC_ok hP hp h (hg.mono hl) hr ha fun rs s' hk ρ' w' rs' l' r' v' => hK rs s' hk ρ' w' rs' l' r' v' fun e => (by cases e),
   fun l args s k ρ w args' x K h hl hr hx ha hK => yieldC_ok hp h (hg.mono hl) hr hx ha fun b s' hk ρ' w' l' r' => hK b s' hk ρ' w' l' r' fun e => (by cases e)⟩

/-! ### Loops -/
theorem AE.get_without (ws : List Nat) : ∀ (e : AE) (t : Nat), (AE.without ws e).get t = if t ∈ ws then none else e.get t
  | [], t => by unfold AE.without; rw [AE.get_nil]; split <;> rfl
  | (s, v) :: e, t => by
    unfold AE.without
    have ih := AE.get_without ws e t
    cases hm : memN s ws with
    | true =>
      have hs := (memN_iff s ws).1 hm
      rw [cond_true, ih, AE.get_cons]
      by_cases h : t ∈ ws
      · rw [if_pos h, if_pos h]
      · rw [if_neg h, if_neg h, if_neg fun (e : s = t) => h (e ▸ hs)]
    | false =>
      have hs : s ∉ ws := fun h => by rw [(memN_iff s ws).2 h] at hm; cases hm
      rw [cond_false, AE.get_cons, AE.get_cons, ih]
      by_cases h : s = t
      · subst h; rw [if_pos rfl, if_pos rfl, if_neg hs]
      · rw [if_neg h, if_neg h]
theorem Env.get_without (ws : List Nat) : ∀ (e : Env) (t : Nat), t ∉ ws → (without ws e).get t = e.get t
  | [], t, _ => rfl
  | (s, v) :: e, t, h => by
    unfold without
    have ih := Env.get_without ws e t h
    cases hm : memN s ws with
    | true =>
      have hs := (memN_iff s ws).1 hm
      rw [cond_true, ih, get_cons, if_neg fun (e : s = t) => h (e ▸ hs)]
    | false =>
      rw [cond_false, get_cons, get_cons, ih]
theorem ER.without {ρ : Nm} {e : AE} {env : Env} (h : ER ρ e env) (ws : List Nat) : ER ρ (AE.without ws e) (Gp.without ws env) := fun t v g => by
  rw [AE.get_without] at g
  split at g
  · cases g
  · rename_i ht
    rw [Env.get_without ws env t ht]
    exact h t v g

theorem getST_ok {ρ : Nm} : ∀ {st : List (Nat × Kind)} {e : AE} {env : Env} {l : AE} {φ : DenT st → Prop}, getST st e = some l → ER ρ e env → (∀ s : DenT st, PE ρ l (encS st s) → φ s) → getS st env φ
  | [], e, env, l, φ, h, he, hK => by cases h; exact hK () .nil
  | (t, kd) :: r, e, env, l, φ, h, he, hK => by
    unfold getST at h
    split at h
    · rename_i v hv
      cases hk : kOk kd v with
      | false => rw [hk] at h; cases h
      | true =>
        rw [hk, cond_true] at h
        split at h
        · rename_i m hm
          cases h
          obtain ⟨u, h1, h2⟩ := he t v hv
          obtain ⟨y, rfl⟩ := kOk_ok h2 hk
          unfold getS
          rw [h1]
          dsimp only
          rw [dec_self]
          exact getST_ok hm he fun s hs => hK (y, s) (.cons h2 hs)
        · cases h
    · cases h

theorem lpIt_inv (hp : CodeOk P w0 prev) {nt : Nat} {a : Code} {r r' : Option Nat} {x : Ann} {st : List (Nat × Kind)} {base : AE} {benv : Env} {Γ : LCx} {k : KC} {ρ : Nm} {K : Exit → Env → List Nat → World → Prop} (hg : GR P ρ Γ) (hrr : RR ρ r r') (hb : ER ρ base benv) (hK : KCk w0 ρ k K)
    {n : Nat} {l : AE} {ads : List Nat} {σ : St} {ρ1 : Nm} {w : World} {env : Env} {ds : List Nat} (h : lpIt prev nt a r x st base Γ k (n + 1) l ads σ = true) (hl : Le ρ ρ1) (hr : Rel w0 ρ1 σ w) (hs : PE ρ1 l env) (hd : DR ρ1 ads ds)
    (next : DenT st → List Nat → World → Prop) (hnext : ∀ l' ads' σ' ρ2 s' ds' w', lpIt prev nt a r x st base Γ k n l' ads' σ' = true → Le ρ ρ2 → Rel w0 ρ2 σ' w' → PE ρ2 l' (encS st s') → DR ρ2 ads' (cond (hasRng a) ds' ds) → next s' ds' w') :
    den P nt a r' x (env ++ benv) ds w fun e env' ds' w' => match e with
      | .normal => getS st env' fun s' => next s' ds' w'
      | e => K e env' ds' w' := by
  have h : lpStep prev nt a r x st base Γ k (lpIt prev nt a r x st base Γ k n) l ads σ = true := h
  unfold lpStep at h
  refine hp _ _ _ r' _ _ _ _ _ _ h ρ1 w _ ds _ hr (hs.er (hb.mono hl)) hd (hg.mono hl) (hrr.mono hl) ?_
  intro e ae ads' s' hk ρ2 w' env' ds' l2 r2 he2 hd2
  cases e with
  | normal =>
    dsimp only at hk ⊢
    split at hk
    · rename_i l' hl'
      refine getST_ok hl' he2 fun s1 hs1 => hnext l' _ s' ρ2 s1 ds' w' hk (hl.trans l2) r2 hs1 ?_
      cases hasRng a with
      | true => exact hd2
      | false => exact hd.mono l2
    · cases hk
  | _ => exact hK _ _ _ _ hk ρ2 w' env' ds' (hl.trans l2) r2 he2 hd2
end
end Gp.Rn
