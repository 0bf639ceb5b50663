import Derived.Test.YtmcdmhegjhcjhaaGreatCode3
/- A function's contract out of its code. -/
namespace Gp
open Go

@[reducible] def Cur : List Kind → Type
  | [] => World → Prop
  | k :: r => k.T → Cur r

def flat : List Shape → List Kind
  | [] => []
  | .one k :: r => k :: flat r
  | .agg ks :: r => ks ++ flat r

def decKs : (ks : List Kind) → (rest : List Kind) → List Value → Cur (ks ++ rest) → (Cur rest → Prop) → Prop
  | [], _, [], c, φ => φ c
  | k :: ks, rest, v :: vs, c, φ => k.dec v fun x => decKs ks rest vs (c x) φ
  | _, _, _, _, _ => False

def decSh : (sh : List Shape) → List Value → Cur (flat sh) → World → Prop
  | [], [], c, w => c w
  | .one k :: r, v :: vs, c, w => k.dec v fun x => decSh r vs (c x) w
  | .agg ks :: r, v :: vs, c, w => match v with
    | .agg cs => decKs ks (flat r) cs.toList c fun c' => decSh r vs c' w
    | _ => False
  | _, _, _, _ => False

def exKsC : (ks : List Kind) → (rest : List Kind) → Cur (ks ++ rest) → (List Value → Cur rest → Prop) → Prop
  | [], _, c, φ => φ [] c
  | k :: ks, rest, c, φ => ∃ x : k.T, exKsC ks rest (c x) fun vs c' => φ (k.enc x :: vs) c'

/-- There are results of these shapes. -/
def exSh : (sh : List Shape) → Cur (flat sh) → (List Value → Prop) → World → Prop
  | [], c, φ, w => φ [] ∧ c w
  | .one k :: r, c, φ, w => ∃ x : k.T, exSh r (c x) (fun vs => φ (k.enc x :: vs)) w
  | .agg ks :: r, c, φ, w => exKsC ks (flat r) c fun vs c' => exSh r c' (fun us => φ (.agg ⟨vs⟩ :: us)) w

theorem decKs_ex : ∀ (ks rest : List Kind) (vs : List Value) (c : Cur (ks ++ rest)) (φ : Cur rest → Prop), decKs ks rest vs c φ →
    ∀ ψ : List Value → Cur rest → Prop, (∀ c', φ c' → ψ vs c') → exKsC ks rest c ψ := by
  intro ks
  induction ks with
  | nil =>
    intro rest vs c φ h ψ hψ
    cases vs with
    | nil => exact hψ c h
    | cons v vs => exact h.elim
  | cons k ks ih =>
    intro rest vs c φ h ψ hψ
    cases vs with
    | nil => exact h.elim
    | cons v vs =>
      obtain ⟨x, hx, h'⟩ := dec_enc h
      subst hx
      exact ⟨x, ih rest vs (c x) φ h' _ hψ⟩

theorem decSh_ex : ∀ (sh : List Shape) (vs : List Value) (c : Cur (flat sh)) (w : World), decSh sh vs c w → ∀ φ : List Value → Prop, φ vs → exSh sh c φ w := by
  intro sh
  induction sh with
  | nil =>
    intro vs c w h φ hφ
    cases vs with
    | nil => exact ⟨hφ, h⟩
    | cons v vs => exact h.elim
  | cons s sh ih =>
    intro vs c w h φ hφ
    cases s with
    | one k =>
      cases vs with
      | nil => exact h.elim
      | cons v vs =>
        obtain ⟨x, hx, h'⟩ := dec_enc h
        subst hx
        exact ⟨x, ih vs (c x) w h' (fun vs => φ (k.enc x :: vs)) hφ⟩
    | agg ks =>
      cases vs with
      | nil => exact h.elim
      | cons v vs =>
        cases v with
        | agg cs => exact decKs_ex ks (flat sh) cs.toList c _ h _ fun c' h' => ih vs c' w h' (fun us => φ (.agg ⟨cs.toList⟩ :: us)) hφ
        | _ => exact h.elim

def CloseP : List Nat → World → (World → Prop) → Prop
  | [], w, K => K w
  | D :: ds, w, K => w.heap[D]? = some (.deferred (some [])) ∧ CloseP ds (w.putObj D (.deferred none)) K

def resDen (P : Program) : List ResultVar → Env → World → (List Value → Prop) → Prop
  | [], _, _, φ => φ []
  | .tmp t :: r, env, w, φ => match env.get t with
    | some v => resDen P r env w fun vs => φ (v :: vs)
    | none => False
  | .cell a t :: r, env, w, φ => match env.get a, shapeOf P t, sizeOf? P t with
    | some (.pointer (some ad)), some sh, some n => cond (Nat.beq sh.cells n) (sh.ld w ad fun v => resDen P r env w fun vs => φ (v :: vs)) False
    | _, _, _ => False

def retK (P : Program) (rs : List ResultVar) (sh : List Shape) (Post : Cur (flat sh)) (e : Exit) (env : Env) (ds : List Nat) (w : World) : Prop :=
  match e with
  | .normal => CloseP ds w fun w' => resDen P rs env w' fun vs => decSh sh vs Post w'
  | .ret => CloseP ds w fun w' => resDen P rs env w' fun vs => decSh sh vs Post w'
  | _ => False

def argEnv : Nat → List Value → Env
  | _, [] => []
  | i, v :: vs => (i, v) :: argEnv (i + 1) vs

theorem argEnv_get : ∀ (vs : List Value) (i s : Nat) (v : Value), Env.get (argEnv i vs) s = some v → i ≤ s ∧ vs[s - i]? = some v := by
  intro vs
  induction vs with
  | nil => intro i s v h; simp [argEnv, Env.get] at h
  | cons u vs ih =>
    intro i s v h
    simp only [argEnv, get_cons] at h
    by_cases e : i = s
    · subst e; simp at h; simp [h]
    · rw [if_neg e] at h
      obtain ⟨h1, h2⟩ := ih _ _ _ h
      refine ⟨by omega, ?_⟩
      obtain ⟨m, hm⟩ : ∃ m, s - i = m + 1 := ⟨s - i - 1, by omega⟩
      rw [hm]
      have : s - (i + 1) = m := by omega
      rw [this] at h2
      simpa using h2

section
variable {P : Program}

def resV (tmps : Array Value) (x : ResultVar) : Sem Value :=
  match x with
  | .tmp t => pure (tmps.getD t undef)
  | .cell b t => do loadVar t (← asAddr (tmps.getD b undef))

theorem resDen_run {a : Act} {env : Env} {w : World} (ha : Agr env a) : ∀ (rs : List ResultVar) (φ : List Value → Prop), resDen P rs env w φ →
    ∃ vs, (rs.mapM (resV a.tmps)).run P w = .ok vs w ∧ φ vs := by
  intro rs
  induction rs with
  | nil => exact fun φ h => ⟨[], by simp, h⟩
  | cons x rs ih =>
    intro φ h
    cases x with
    | tmp t =>
      simp only [resDen] at h
      cases hg : env.get t with
      | none => simp only [hg] at h
      | some v =>
        simp only [hg] at h
        obtain ⟨vs, hr, hφ⟩ := ih _ h
        have := ha t v hg
        refine ⟨v :: vs, ?_, hφ⟩
        rw [List.mapM_cons]
        simp only [resV, Sem.run_bind, Sem.run_pure, Result.andThen_ok, Array.getD_eq_getD_getElem?, this, Option.getD_some, hr]
    | cell b t =>
      simp only [resDen] at h
      split at h
      · rename_i ad sh n hg hs hn
        cases hb : Nat.beq sh.cells n with
        | false => rw [hb] at h; exact h.elim
        | true =>
          rw [hb] at h
          obtain ⟨v, hv, h⟩ := run_loadVar (P := P) hs hn (Nat.eq_of_beq_eq_true hb) h
          obtain ⟨vs, hr, hφ⟩ := ih _ h
          have := ha b _ hg
          refine ⟨v :: vs, ?_, hφ⟩
          rw [List.mapM_cons]
          simp only [resV, Sem.run_bind, Sem.run_pure, Result.andThen_ok, Array.getD_eq_getD_getElem?, this, Option.getD_some, asAddr, hv, hr]
      · exact h.elim

theorem results_run {fn : Func} {a : Act} {env : Env} {w : World} (ha : Agr env a) {φ : List Value → Prop} (h : resDen P fn.results.toList env w φ) :
    ∃ vs, (results fn a.tmps).run P w = .ok (tup vs) w ∧ φ vs := by
  obtain ⟨vs, hr, hφ⟩ := resDen_run ha _ _ h
  refine ⟨vs, ?_, hφ⟩
  have e : results fn a.tmps = (do let vs ← fn.results.mapM (resV a.tmps); pure (if h : vs.size = 1 then vs[0] else .tuple vs)) := rfl
  rw [e, Array.mapM_eq_mapM_toList]
  simp only [Sem.run_bind, Sem.run_map]
  rw [hr]
  simp only [Result.andThen_ok, Sem.run_pure]
  congr 1
  match vs with
  | [] => rfl
  | [v] => rfl
  | v :: u :: vs => rfl

theorem close_leaves {fn : Func} {a : Act} {env : Env} (ha : Agr env a) {R : Ending → World → Prop} {φ : List Value → World → Prop} (hR : ∀ vs w, φ vs w → R (.returned (tup vs)) w) :
    ∀ (ds : List Nat) (w : World), CloseP ds w (fun w' => resDen P fn.results.toList env w' fun vs => φ vs w') → LeavesInM (Fr none) 0 P fn a.tmps R (mkD ds) .returning w := by
  intro ds
  induction ds with
  | nil =>
    intro w h
    obtain ⟨vs, hr, hφ⟩ := results_run ha h
    exact ⟨_, hr, hR _ _ hφ⟩
  | cons D ds ih =>
    intro w h
    obtain ⟨h1, h2⟩ := h
    exact ⟨by simp, .inl ⟨D, _, rfl, run_takeDeferred h1, ih _ h2⟩⟩

/-- **A function's contract out of 'den' of its body.** -/
theorem fn_sound (hP : POk P) {f : FuncId} {fn : Func} {c : Code} {nt : Nat} (hf : P.funcs[f]? = some fn) (hb : fn.body = some c) (hnt : fn.ntmps = nt) {rs : List ResultVar} (hrs : fn.results = ⟨rs⟩)
    (sh : List Shape) (Post : Cur (flat sh)) (an : Ann) (args : List Value) (hl : Nat.ble args.length nt = true) (w : World) (h : den P nt c none an (argEnv 0 args) [] w (retK P rs sh Post)) :
    Calls P f ⟨args⟩ w fun e w' => exSh sh Post (fun us => e = .returned (tup us)) w' := by
  refine (callsIn_wide (n := 0)).1 ?_
  refine callsIn_of_wp_marks (F := Fr none) hf hb trivial ?_ rfl
  have hsz : ((⟨args⟩ : Array Value) ++ Array.replicate (fn.ntmps - (⟨args⟩ : Array Value).size) undef).size = nt := by
    have := Nat.le_of_ble_eq_true hl
    simp [hnt]; omega
  refine den_sound hP nt c none an _ [] w _ 0 _ (writes c) _ _ h ⟨fun s v hs => ?_, hsz, rfl, fun _ _ => rfl⟩ (fun s hs => hs) ?_
  · obtain ⟨_, h2⟩ := argEnv_get _ _ _ _ hs
    have hlt := (List.getElem?_eq_some_iff.1 h2).1
    simp only [Nat.sub_zero] at h2 hlt
    show ((⟨args⟩ : Array Value) ++ Array.replicate (fn.ntmps - (⟨args⟩ : Array Value).size) undef)[s]? = some v
    rw [Array.getElem?_append_left (by simpa using hlt)]
    simpa using h2
  · intro e env' ds' w' a' ha' _ hk
    have hcl : ∀ w', CloseP ds' w' (fun w' => resDen P rs env' w' fun vs => decSh sh vs Post w') →
        LeavesInM (Fr none) 0 P fn a'.tmps (fun e w' => exSh sh Post (fun us => e = .returned (tup us)) w') a'.defers .returning w' := by
      intro w' hw'
      rw [ha'.defers]
      have hrs' : fn.results.toList = rs := by rw [hrs]
      rw [← hrs'] at hw'
      exact close_leaves ha'.agr (φ := fun vs w' => decSh sh vs Post w') (fun vs w hd => decSh_ex sh vs Post w hd (fun us => Ending.returned (tup vs) = .returned (tup us)) rfl) ds' w' hw'
    cases e with
    | normal => exact hcl w' hk
    | ret => exact hcl w' hk
    | _ => exact hk.elim

theorem POk.of_all (h : (P.funcs.toList.all fun fn => !(fn.name == "runtime.NumGoroutine")) = true) (hm : P.follows .mixedOrders = true) : POk P := by
  refine ⟨fun f fn hf _ => ?_, hm⟩
  rw [List.all_eq_true] at h
  have := h fn (List.mem_of_getElem? (by simpa using hf))
  simpa using this
end

def bodyOf (fn : Func) : Code :=
  match fn.body with
  | some c => c
  | none => .skip

def bs (l : List UInt8) : ByteArray := ⟨⟨l⟩⟩

/-- A new block. -/
def Al (w : World) (o : Obj) (K : Addr → World → Prop) : Prop := K ⟨w.heap.size, 0, none⟩ (w.alloc o)
end Gp
