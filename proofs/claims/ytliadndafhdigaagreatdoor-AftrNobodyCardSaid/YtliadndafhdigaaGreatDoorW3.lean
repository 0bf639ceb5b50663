import Derived.Test.YtliadndafhdigaaGreatDoorW2
import Derived.ProofKit
import Derived.OpenShut
import Derived.ChangeOld
import Derived.Below
import Derived.Deep.Slices
section
namespace Gp
open Go
section
variable {P : Program}
theorem kY.self {nt : Nat} {dfr : List Deferred} {ws ws' : List Nat} {a0 a : Act} {env : Env} (h : kY nt dfr ws a0 env a) : kY nt dfr ws' a env a := ⟨h.agr, h.size, h.defers, fun _ _ => rfl⟩
theorem kY.trans {nt : Nat} {d1 d2 : List Deferred} {ws ws' : List Nat} {a0 a a' : Act} {env env' : Env} (h : kY nt d1 ws a0 env a) (h' : kY nt d2 ws' a env' a') (hs : ∀ s ∈ ws', s ∈ ws) : kY nt d2 ws a0 env' a' :=
  ⟨h'.agr, h'.size, h'.defers, fun s hn => (h'.same s fun x => hn (hs s x)).trans (h.same s hn)⟩
theorem kY.env {nt : Nat} {dfr : List Deferred} {ws : List Nat} {a0 a : Act} {env env' : Env} (h : kY nt dfr ws a0 env a) (he : ∀ s v, env'.get s = some v -> a.tmps[s]? = some v) : kY nt dfr ws a0 env' a :=
  ⟨he, h.size, h.defers, h.same⟩
def LL (l : Nat) (fn : FuncId) (tmps : Array Value) (ps : Array Tmp) (assign body : Code) (dfr : Nat) (st : LoopState) (p : Option Code) (W : World) : Prop :=
  W.heap[l]? = some (.loop { state := st, pending := p, fn := fn, tmps := tmps, params := ps, assign := assign, body := body, defers := dfr })
def iJ (P : Program) (nt : Nat) (c : Code) : Prop :=
  ∀ (r : Option Nat) (an : iZ) (env : Env) (ds : List Nat) (w : World) (K : Exit -> Env -> List Nat -> World -> Prop) (n : Nat) (Q : Exit -> Act -> World -> Prop) (ws : List Nat) (a0 a : Act),
    den P nt c r an env ds w K -> kY nt (Dz ds) ws a0 env a -> (∀ s ∈ writes c, s ∈ ws) ->
    (∀ e env' ds' w' a', kY nt (Dz ds') ws a0 env' a' -> (aQ c = false -> ds' = ds) -> K e env' ds' w' -> Q e a' w') -> c.wpIn (Fr r) n P Q a w
theorem zJ : ∀ (st : List (Nat × Kind)) (x y : lK st) (t : Nat), Env.get (encS st x) t = none -> Env.get (encS st y) t = none := by
  intro st
  induction st with
  | nil => exact fun x y t h => h
  | cons p st ih =>
    obtain ⟨s, k⟩ := p
    intro x y t h
    simp only [encS, aI] at h ⊢
    by_cases e : s = t
    · simp [e] at h
    · simp only [e, if_false] at h ⊢; exact ih _ _ _ h
theorem wJ {nt : Nat} {dfr dfr' : List Deferred} {ws ws' : List Nat} {st : List (Nat × Kind)} {x y : lK st} {env env' : Env} {a0 a a' : Act} (h : kY nt dfr ws a0 (encS st y ++ without ws' env) a)
    (h' : kY nt dfr' ws' a env' a') (hx : ∀ t v, Env.get (encS st x) t = some v -> env'.get t = some v) : ∀ s v, Env.get (encS st x ++ without ws' env) s = some v -> a'.tmps[s]? = some v := by
  intro s v hs
  rw [get_append] at hs
  cases he : Env.get (encS st x) s with
  | some u => rw [he] at hs; simp at hs; subst hs; exact h'.agr s u (hx s u he)
  | none =>
    rw [he] at hs
    simp only at hs
    have hw : s ∉ ws' := by
      intro hw
      rw [bF] at hs
      simp [hw] at hs
    rw [h'.same s hw]
    refine h.agr s v ?_
    rw [get_append, zJ st x y s he]
    exact hs
theorem rW {st : List (Nat × Kind)} {x : lK st} {env : Env} {a : Act} (ws' : List Nat) (h : zD env a)
    (hx : ∀ t v, Env.get (encS st x) t = some v -> env.get t = some v) : ∀ s v, Env.get (encS st x ++ without ws' env) s = some v -> a.tmps[s]? = some v := by
  intro s v hs
  rw [get_append] at hs
  cases he : Env.get (encS st x) s with
  | some u => rw [he] at hs; simp at hs; subst hs; exact h s u (hx s u he)
  | none =>
    rw [he] at hs
    simp only [bF] at hs
    by_cases hw : s ∈ ws'
    · simp [hw] at hs
    · simp only [hw, if_false] at hs
      exact h s v hs
theorem wC {nt : Nat} {dfr : List Deferred} {ws' : List Nat} {B env env' : Env} {a a' : Act} (ha : zD env a)
    (h' : kY nt dfr ws' a env' a') (hx : ∀ t v, Env.get B t = some v -> env'.get t = some v) : ∀ s v, Env.get (B ++ without ws' env) s = some v -> a'.tmps[s]? = some v := by
  intro s v hs
  rw [get_append] at hs
  cases he : Env.get B s with
  | some u => rw [he] at hs; simp at hs; subst hs; exact h'.agr s u (hx s u he)
  | none =>
    rw [he] at hs
    simp only [bF] at hs
    by_cases hw : s ∈ ws'
    · simp [hw] at hs
    · simp only [hw, if_false] at hs
      rw [h'.same s hw]
      exact ha s v hs
theorem wZ {nt : Nat} {x y : Code} (ihx : iJ P nt x) (ihy : iJ P nt y) {st : List (Nat × D6)} {ax ay : iZ} {r : Option Nat} {env : Env} {ds : List Nat} {w : World} {K : Exit -> Env -> List Nat -> World -> Prop}
    {n : Nat} {Q : Exit -> Act -> World -> Prop} {ws : List Nat} {a0 a : Act} (h : den P nt (.seq x y) r (.join st ax ay) env ds w K) (ha : kY nt (Dz ds) ws a0 env a) (hws : ∀ s ∈ writes (.seq x y), s ∈ ws)
    (hQ : ∀ e env' ds' w' a', kY nt (Dz ds') ws a0 env' a' -> (aQ (.seq x y) = false -> ds' = ds) -> K e env' ds' w' -> Q e a' w') : (Code.seq x y).wpIn (Fr r) n P Q a w := by
  have hwx : ∀ s ∈ writes x, s ∈ ws := fun s hs => hws s (by simp [writes, hs])
  have hwy : ∀ s ∈ writes y, s ∈ ws := fun s hs => hws s (by simp [writes, hs])
  simp only [den] at h
  cases hr : aQ x with
  | false =>
    rw [hr] at h
    simp only [cond_false, rV] at h
    refine wpIn_seq (ihx r ax env ds w _ n _ (writes x) a a h ha.self (fun s hs => hs) ?_)
    intro e env' ds' w' a' ha' hds hk
    have hds := hds hr
    subst hds
    cases e with
    | normal =>
      obtain ⟨s', hb, hs'⟩ := rU _ _ _ hk
      refine ihy r ay _ ds' w' K n Q ws a0 a' hb ((ha.trans ha' hwx).env (wC ha.agr ha' hs')) hwy ?_
      intro e2 env2 ds2 w2 a2 ha2 hds2 hk2
      refine hQ _ _ _ _ _ ha2 (fun hx => ?_) hk2
      simp only [aQ, Bool.or_eq_false_iff] at hx
      exact hds2 hx.2
    | _ => exact hQ _ _ _ _ _ (ha.trans ha' hwx) (fun _ => rfl) hk
  | true =>
    rw [hr] at h
    simp only [cond_true, rV] at h
    refine wpIn_seq (ihx r ax env ds w _ n _ (writes x) a a h ha.self (fun s hs => hs) ?_)
    intro e env' ds' w' a' ha' _ hk
    cases e with
    | normal =>
      obtain ⟨s', hb, hs'⟩ := rU _ _ _ hk
      refine ihy r ay _ ds' w' K n Q ws a0 a' hb ((ha.trans ha' hwx).env (wC ha.agr ha' hs')) hwy ?_
      intro e2 env2 ds2 w2 a2 ha2 hds2 hk2
      refine hQ _ _ _ _ _ ha2 (fun hx => ?_) hk2
      simp [aQ, hr] at hx
    | _ => exact hQ _ _ _ _ _ (ha.trans ha' hwx) (fun hx => by simp [aQ, hr] at hx) hk
theorem xw {nt : Nat} {c : Code} (ih : iJ P nt c) : iJ P nt (.loop c) := by
  intro r an env ds w K n Q ws a0 a h ha hws hQ
  cases an with
  | loop st x =>
    simp only [den] at h
    cases hr : aQ c with
    | false =>
      rw [hr] at h
      simp only [cond_false] at h
      obtain ⟨s0, ⟨I, h0, hstep⟩, hs0⟩ := jL _ _ _ h
      refine wpIn_loop_ghost (fun m a' w' => ∃ s : lK st, I m s w' ∧ kY nt (Dz ds) ws a0 (encS st s ++ without (writes c) env) a') ?_ ?_
      · obtain ⟨m, hm⟩ := h0
        exact ⟨m, s0, hm, ha.env (rW _ ha.agr hs0)⟩
      · rintro m a1 w1 ⟨s, hI, ha1⟩
        refine ih r x _ ds w1 _ n _ (writes c) a1 a1 (hstep m s w1 hI) ha1.self (fun s hs => hs) ?_
        intro e env' ds' w' a' ha' hds hk
        have hds := hds hr
        subst hds
        cases e with
        | normal =>
          obtain ⟨s', ⟨m', hlt, hI'⟩, hs'⟩ := jL _ _ _ hk
          exact ⟨m', hlt, s', hI', (ha1.trans ha' hws).env (wJ ha1 ha' hs')⟩
        | _ => exact hQ _ _ _ _ _ (ha1.trans ha' hws) (fun _ => rfl) hk
    | true =>
      rw [hr] at h
      simp only [cond_true] at h
      obtain ⟨s0, ⟨I, h0, hstep⟩, hs0⟩ := jL _ _ _ h
      refine wpIn_loop_ghost (fun m a' w' => ∃ s : lK st × List Nat, I m s w' ∧ kY nt (Dz s.2) ws a0 (encS st s.1 ++ without (writes c) env) a') ?_ ?_
      · obtain ⟨m, hm⟩ := h0
        exact ⟨m, (s0, ds), hm, ha.env (rW _ ha.agr hs0)⟩
      · rintro m a1 w1 ⟨s, hI, ha1⟩
        refine ih r x _ s.2 w1 _ n _ (writes c) a1 a1 (hstep m s w1 hI) ha1.self (fun s hs => hs) ?_
        intro e env' ds' w' a' ha' _ hk
        cases e with
        | normal =>
          obtain ⟨s', ⟨m', hlt, hI'⟩, hs'⟩ := jL _ _ _ hk
          exact ⟨m', hlt, (s', ds'), hI', (ha1.trans ha' hws).env (wJ ha1 ha' hs')⟩
        | _ => exact hQ _ _ _ _ _ (ha1.trans ha' hws) (fun hx => by simp [aQ, hr] at hx) hk
  | _ => exact h.elim
theorem rE {fn : FuncId} {tmps : Array Value} {ps : Array Tmp} {assign body : Code} {w : World} :
    (Instr.enterLoop fn tmps ps assign body none).run P w =
      .ok (w.heap.size + 1, [{ target := .collected w.heap.size, args := #[] }])
        ((w.alloc (.deferred (some []))).alloc (.loop { state := .ready, pending := none, fn := fn, tmps := tmps, params := ps, assign := assign, body := body, defers := w.heap.size })) := by
  simp [Instr.enterLoop]
theorem nG {fn : FuncId} {tmps : Array Value} {ps : Array Tmp} {assign body : Code} {w : World} {l₀ : Nat} {lp : Loop} (h : w.heap[l₀]? = some (.loop lp)) :
    (Instr.enterLoop fn tmps ps assign body (some l₀)).run P w =
      .ok (w.heap.size, []) (w.alloc (.loop { state := .ready, pending := none, fn := fn, tmps := tmps, params := ps, assign := assign, body := body, defers := lp.defers })) := by
  simp [Instr.enterLoop, run_getLoop h]
theorem zU {e : Exit} {j : Option Code} (h : mG e = some j) : j.isNone = dL e := by
  cases e <;> simp [mG] at h <;> subst h <;> rfl
theorem wE {nt : Nat} {assign body : Code} (ih1 : iJ P nt assign) (ih2 : iJ P nt body) {l : Nat} {fn : FuncId} {tmps : Array Value} {ps : Array Tmp} {dfr : Nat} {ks : List Shape} {x y : iZ} {env : Env}
    (hlen : Nat.beq ps.toList.length ks.length = true) (hnd : jk ps.toList = true) (hlt : ∀ s ∈ ps.toList, s < nt) (hra : aQ assign = false) (hsz : tmps.size = nt) (hag : ∀ s v, env.get s = some v -> tmps[s]? = some v)
    {x' : qQ ks} {W : World} {p : Option Code} {R : Bool -> World -> Prop} (hL : LL l fn tmps ps assign body dfr .ready p W)
    (h : den P nt assign (some l) x (lU ps.toList (encR ks x') ++ env) [] W fun e env1 _ W1 => match e with
        | .normal => W1.heap[l]? = W.heap[l]? ∧ den P nt body (some l) y env1 [] (dX W1 l) fun e _ _ W2 =>
            (LL l fn tmps ps assign body dfr .busy p W2 ∧ ∃ j, mG e = some j ∧ R (dL e) (aS W2 l (if dL e then .ready else .done) j))
        | _ => False) : kN P l (encR ks x') W R := by
  have hkl : ∀ (ks : List Shape) (x : qQ ks), (encR ks x).length = ks.length := by
    intro ks
    induction ks with
    | nil => intro x; rfl
    | cons k ks ih => intro x; simp [encR, ih]
  have hl2 : (encR ks x').length = ps.size := by
    rw [hkl]
    have := Nat.eq_of_beq_eq_true hlen
    simpa using this.symm
  refine ⟨fn, ou ps.toList (encR ks x') tmps, assign, body, ?_, ?_⟩
  · have h1 : (ps.zip (⟨encR ks x'⟩ : Array Value)).foldl (fun (tmps : Array Value) (x : Tmp × Value) => tmps.setIfInBounds x.1 x.2) tmps = ou ps.toList (encR ks x') tmps := by
      rw [<- Array.foldl_toList, Array.toList_zip]
    simp only [Instr.yield, Sem.run_bind, run_getLoop hL, Result.andThen_ok]
    have h2 : ¬ ((⟨encR ks x'⟩ : Array Value).size ≠ ps.size) := by simpa using hl2
    simp only [h2, if_false, Sem.run_pure]
    congr 2
  · refine roundIn_of_wpIn (F := Fence.wide) trivial ?_
    have hA : kY nt (Dz []) (writes assign) { tmps := ou ps.toList (encR ks x') tmps, defers := [] } (lU ps.toList (encR ks x') ++ env) { tmps := ou ps.toList (encR ks x') tmps, defers := [] } := by
      refine ⟨fun s v hs => ?_, by simp [AA, hsz], rfl, fun _ _ => rfl⟩
      rw [get_append] at hs
      cases he : Env.get (lU ps.toList (encR ks x')) s with
      | some u =>
        rw [he] at hs
        simp only [Option.some.injEq] at hs
        subst hs
        exact Dw _ _ _ hnd (fun s hs => by rw [hsz]; exact hlt s hs) s u he
      | none =>
        rw [he] at hs
        have hn : s ∉ ps.toList := by
          intro hm
          have : ∀ (ps : List Nat) (vs : List Value), ps.length = vs.length -> s ∈ ps -> Env.get (lU ps vs) s ≠ none := by
            intro ps
            induction ps with
            | nil => intro vs _ h; cases h
            | cons q ps ih =>
              intro vs hl hm
              cases vs with
              | nil => simp at hl
              | cons v vs =>
                simp only [lU, aI]
                by_cases e : q = s
                · simp [e]
                · simp only [e, if_false]
                  refine ih vs (by simpa using hl) ?_
                  cases hm with
                  | head => exact absurd rfl e
                  | tail _ h => exact h
          exact this _ _ (by simpa using hl2.symm) hm he
        show (ou ps.toList (encR ks x') tmps)[s]? = some v
        rw [qy _ _ _ _ hn]
        exact hag s v hs
    refine ih1 (some l) x _ [] W _ 0 _ (writes assign) _ _ h hA (fun s hs => hs) ?_
    intro e env1 ds1 W1 a1 ha1 hds1 hk
    have hds1 := hds1 hra
    subst hds1
    cases e with
    | normal =>
      obtain ⟨hsame, hk⟩ := hk
      have hL1 : W1.heap[l]? = some (.loop { state := .ready, pending := p, fn := fn, tmps := tmps, params := ps, assign := assign, body := body, defers := dfr }) := hsame.trans hL
      refine ⟨dX W1 l, run_beginRound hL1 rfl, ?_⟩
      have ha1' : kY nt (Dz []) (writes body) a1 env1 a1 := ha1.self
      refine ih2 (some l) y env1 [] _ _ 0 _ (writes body) a1 a1 hk ha1' (fun s hs => hs) ?_
      intro e env2 ds2 W2 a2 ha2 _ hk2
      obtain ⟨hL2, j, hj, hR⟩ := hk2
      have hend := run_endRound (P := P) hL2 j
      rw [zU hj] at hend
      have hR' : ∃ b : Bool, Ending.returned (.bool (dL e)) = .returned (.bool b) ∧ R b (aS W2 l (if dL e then .ready else .done) j) := ⟨_, rfl, hR⟩
      cases e <;> simp only [mG, Option.some.injEq] at hj <;> first
        | (subst hj; exact ⟨_, _, hend, hR'⟩)
        | (cases hj; done)
    | _ => exact hk.elim
theorem zO (hP : jA P) {f : FuncId} {first cap : Array Value} {l : Nat} {W : World} (hb : bK P f = true) {a : Act} {g : Operand} (hg : a.eval g = .func (.func f) first cap) :
    ∃ d, (resolve a.eval (rangeCall g l) 0).run P W = .ok d W ∧ (invoke d.target d.args).run P W = .ok (.enter f ⟨first.toList ++ (Value.func (.yield l) #[] #[] :: cap.toList)⟩) W := by
  refine ⟨{ target := .fn (.func f) cap, args := first ++ #[.func (.yield l) #[] #[]] }, ?_, ?_⟩
  · simp only [resolve, hg, Deferred.ofValue, Sem.run_pure, List.map_toArray, List.map_cons, List.map_nil]; rfl
  · have e : first ++ #[Value.func (.yield l) #[] #[]] ++ cap = ⟨first.toList ++ (Value.func (.yield l) #[] #[] :: cap.toList)⟩ := by apply Array.toList_inj.mp; simp
    simp only [invoke, e]
    exact fO hP hb _ _
theorem xX {id : Nat} {w : World} {K : Exit -> World -> Prop} : ∀ (l : List Nat), sH id (l.map fun id => (id, K (.exit id))) w -> K (.exit id) w := by
  intro l
  induction l with
  | nil => intro h; exact h.elim
  | cons i l ih =>
    intro h
    simp only [List.map_cons, sH] at h
    cases hb : Nat.beq i id with
    | true =>
      rw [hb] at h
      have := Nat.eq_of_beq_eq_true hb
      subst this
      exact h
    | false => rw [hb] at h; exact ih h
theorem xR {K : Exit -> World -> Prop} {l : List Nat} {p : Option Code} {w : World} (h : Bz (K .normal) (K .ret) (l.map fun id => (id, K (.exit id))) p w) {F : Fence} {n : Nat} {Q : Exit -> Act -> World -> Prop} {a : Act}
    (hQ : ∀ e w, K e w -> Q e a w) : (p = none -> Q .normal a w) ∧ ∀ c, p = some c -> c.wpIn F n P Q a w := by
  cases p with
  | none => exact ⟨fun _ => hQ _ _ h, fun c hc => by cases hc⟩
  | some c =>
    refine ⟨fun hc => by (cases hc), fun c' hc => ?_⟩
    cases hc
    cases c <;> first | exact h.elim | exact wpIn_ret (hQ _ _ h) | exact wpIn_exit (hQ _ _ (xX l h))
theorem Ak (hP : jA P) {nt : Nat} {g : Operand} {ps : Array Tmp} {assign body : Code} (ih1 : iJ P nt assign) (ih2 : iJ P nt body) : iJ P nt (.rangeFunc g ps assign body) := by
  intro r an env ds w K n Q ws a0 a h ha hws hQ
  cases an with
  | rng ks x y =>
    simp only [den] at h
    cases hb : (!aQ assign && (Nat.beq ps.toList.length ks.length && (jk ps.toList && ps.toList.all fun s => Nat.blt s nt))) with
    | false => rw [hb] at h; exact h.elim
    | true =>
      rw [hb] at h
      simp only [cond_true] at h
      simp only [Bool.and_eq_true, List.all_eq_true, Nat.blt_eq, Bool.not_eq_true'] at hb
      obtain ⟨hra, hlen, hnd, hlt⟩ := hb
      obtain ⟨hr0, h⟩ := h
      split at h
      · rename_i f first cap hv
        obtain ⟨hbody, h⟩ := h
        have hg : a.eval g = .func (.func f) first cap := by
          cases hx : A_ env g with
          | none => simp [ev, hx, undef] at hv
          | some v =>
            have := vK ha.agr hx
            simp only [ev, hx, Option.getD_some] at hv
            rw [this, hv]
        refine wpIn_rangeFunc fun fn _ => ?_
        have mk : ∀ (l : Nat) (mark : List Deferred) (w1 : World) (dfr : Nat), (Instr.enterLoop fn a.tmps ps assign body (Fr r).round).run P w = .ok (l, mark) w1 ->
            (l = if r.isNone then w.heap.size + 1 else w.heap.size) -> w1.heap.size = l + 1 -> (∀ b, b < w.heap.size -> w1.heap[b]? = w.heap[b]?) -> (w1.os = w.os ∧ w1.tape = w.tape ∧ w1.output = w.output) -> (r = none -> w1.heap[w.heap.size]? = some (.deferred (some []))) ->
            LL l fn a.tmps ps assign body dfr .ready none w1 -> mark ++ a.defers = Dz (cond r.isNone (w.heap.size :: ds) ds) ->
            ∃ (l : Nat) (mark : List Deferred) (w₁ : World) (d : Deferred) (w₁' : World) (f : FuncId) (args : Array Value) (w₂ : World),
              (Instr.enterLoop fn a.tmps ps assign body (Fr r).round).run P w = .ok (l, mark) w₁ ∧ (resolve a.eval (rangeCall g l) 0).run P w₁ = .ok d w₁' ∧
              (∀ f', Target.leads P w₁' d.target d.args = some f' -> (Fr r).fn f') ∧ (invoke d.target d.args).run P w₁' = .ok (.enter f args) w₂ ∧ ((Fr r).depth.isSome = true -> 1 <= n) ∧
              CallsIn (Fr r) (n - 1) P f args w₂ (rangePost (Fr r) n P l Q { a with defers := mark ++ a.defers }) := by
          intro l mark w1 dfr he hl hsz hold hio hmk hLL hds
          obtain ⟨d, hres, hinv⟩ := zO hP (l := l) (W := w1) hbody hg
          refine ⟨l, mark, w1, d, w1, f, _, w1, he, hres, fun _ _ => trivial, hinv, fun hx => by simp [Fr, Fence.wide] at hx, ?_⟩
          have hctx := h l (LL l fn a.tmps ps assign body dfr) w1 {
            at_ := hl
            size := hsz
            old := hold
            io := hio
            marks := hmk
            ready := hLL
            frame := fun st p W W' hL hs => hs.trans hL
            set := fun st p st' p' W hL => xH hL st' p'
            busy := fun p W hL => Bj hL
            isLoop := fun st p W hL => ⟨_, hL⟩
            yield := fun x' W p R hL hx => wE ih1 ih2 hlen hnd hlt hra ha.size ha.agr hL hx }
          have hc : CallsIn Fence.wide (n - 1) P f _ w1 _ := callsIn_wide.2 (jM hctx)
          refine CallsIn.mono (F := Fr r) hc fun e w2 hx => ?_
          obtain ⟨v, rfl, st, p, hL, hst, hj⟩ := hx
          refine ⟨p, _, run_endLoop hL hst, ?_⟩
          have hj2 := xR (P := P) (F := Fr r) (n := n) (Q := Q) (a := { a with defers := mark ++ a.defers }) (K := fun e w' => K e env (cond r.isNone (w.heap.size :: ds) ds) w') (l := bV body) hj fun e w' hk =>
            hQ _ _ _ _ _ ⟨ha.agr, ha.size, hds, ha.same⟩ (fun hx => by simp [aQ] at hx) hk
          clear hj hctx hc
          cases p with
          | none => exact hj2.1 rfl
          | some c => exact hj2.2 c rfl
        cases r with
        | none =>
          refine mk (w.heap.size + 1) _ _ w.heap.size rE rfl (by simp) (fun b hb => ?_) ⟨rfl, rfl, rfl⟩ (fun _ => ?_) ?_ (by simp [Dz, ha.defers])
          · have h1 : b ≠ w.heap.size + 1 := by omega
            have h2 : b ≠ w.heap.size := by omega
            simp [World.alloc, -World.alloc_eq, Array.getElem?_push, h1, h2]
          · simp [World.alloc, -World.alloc_eq, Array.getElem?_push]
          · have := World.alloc_heap_new (w.alloc (.deferred (some []))) (.loop { state := .ready, pending := none, fn := fn, tmps := a.tmps, params := ps, assign := assign, body := body, defers := w.heap.size })
            rw [World.size_alloc] at this
            exact this
        | some l₀ =>
          obtain ⟨lp, hlp⟩ := hr0 l₀ rfl
          refine mk w.heap.size _ _ lp.defers (nG hlp) rfl (by simp) (fun b hb => ?_) ⟨rfl, rfl, rfl⟩ (fun hx => by cases hx) ?_ (by simp [ha.defers])
          · have h2 : b ≠ w.heap.size := by omega
            simp [World.alloc, -World.alloc_eq, Array.getElem?_push, h2]
          · simp [LL, World.alloc, -World.alloc_eq]
      · exact h.elim
  | _ => exact h.elim
theorem rH (hP : jA P) (nt : Nat) : ∀ c, iJ P nt c := by
  intro c
  induction c with
  | skip => intro r an env ds w K n Q ws a0 a h ha hws hQ; exact wpIn_skip (hQ _ _ _ _ _ ha (fun _ => rfl) h)
  | label l => intro r an env ds w K n Q ws a0 a h ha hws hQ; exact wpIn_label (hQ _ _ _ _ _ ha (fun _ => rfl) h)
  | ret => intro r an env ds w K n Q ws a0 a h ha hws hQ; exact wpIn_ret (hQ _ _ _ _ _ ha (fun _ => rfl) h)
  | exit id => intro r an env ds w K n Q ws a0 a h ha hws hQ; exact wpIn_exit (hQ _ _ _ _ _ ha (fun _ => rfl) h)
  | region id ops draw =>
    intro r an env ds w K n Q ws a0 a h ha hws hQ
    simp only [den] at h
    cases draw with
    | true => exact qN hP hws (fun env a w ha hk => hQ _ _ _ _ _ ha (fun _ => rfl) hk) ha h
    | false =>
      refine wpIn_region ?_
      have := tK (r := r) (n := n) (Q := Q) hP hws (fun env a w ha hk => hQ _ _ _ _ _ ha (fun _ => rfl) hk) ops.toList 0 env a w (by simp) ha h
      rw [List.range_eq_range']
      simpa using this
  | seq x y ihx ihy =>
    intro r an env ds w K n Q ws a0 a h ha hws hQ
    cases an with
    | seq ax ay =>
      simp only [den] at h
      refine wpIn_seq (ihx r ax env ds w _ n _ ws a0 a h ha (fun s hs => hws s (by simp [writes, hs])) ?_)
      intro e env' ds' w' a' ha' hds hk
      cases e with
      | normal =>
        refine ihy r ay env' ds' w' K n Q ws a0 a' hk ha' (fun s hs => hws s (by simp [writes, hs])) ?_
        intro e2 env2 ds2 w2 a2 ha2 hds2 hk2
        refine hQ _ _ _ _ _ ha2 (fun hx => ?_) hk2
        simp only [aQ, Bool.or_eq_false_iff] at hx
        rw [hds2 hx.2, hds hx.1]
      | _ =>
        refine hQ _ _ _ _ _ ha' (fun hx => ?_) hk
        simp only [aQ, Bool.or_eq_false_iff] at hx
        exact hds hx.1
    | join st ax ay => exact wZ ihx ihy h ha hws hQ
    | _ => exact h.elim
  | cond c x y ihx ihy =>
    intro r an env ds w K n Q ws a0 a h ha hws hQ
    cases an with
    | cond ax ay =>
      simp only [den] at h
      split at h
      · rename_i t ht
        refine wpIn_cond (vK ha.agr ht) ?_
        cases t with
        | true =>
          refine ihx r ax env ds w K n Q ws a0 a h ha (fun s hs => hws s (by simp [writes, hs])) fun e env' ds' w' a' ha' hds hk => hQ _ _ _ _ _ ha' (fun hx => ?_) hk
          simp only [aQ, Bool.or_eq_false_iff] at hx
          exact hds hx.1
        | false =>
          refine ihy r ay env ds w K n Q ws a0 a h ha (fun s hs => hws s (by simp [writes, hs])) fun e env' ds' w' a' ha' hds hk => hQ _ _ _ _ _ ha' (fun hx => ?_) hk
          simp only [aQ, Bool.or_eq_false_iff] at hx
          exact hds hx.2
      · exact h.elim
    | _ => exact h.elim
  | block id x ihx =>
    intro r an env ds w K n Q ws a0 a h ha hws hQ
    cases an with
    | blk ax =>
      simp only [den] at h
      refine wpIn_block (ihx r ax env ds w _ n _ ws a0 a h ha hws ?_)
      intro e env' ds' w' a' ha' hds hk
      cases e with
      | exit id' =>
        simp only at hk
        simp only [Exit.inBlock]
        by_cases hid : id' = id
        · subst hid
          have : Nat.beq id' id' = true := by simp
          rw [this] at hk
          rw [if_pos rfl]
          exact hQ _ _ _ _ _ ha' hds hk
        · have : Nat.beq id' id = false := by cases hx : Nat.beq id' id; rfl; exact absurd (Nat.eq_of_beq_eq_true hx) hid
          rw [this] at hk
          rw [if_neg hid]
          exact hQ _ _ _ _ _ ha' hds hk
      | _ => exact hQ _ _ _ _ _ ha' hds hk
    | _ => exact h.elim
  | loop x ihx => exact xw ihx
  | rangeFunc g ps assign body ih1 ih2 => exact Ak hP ih1 ih2
  | scope x ihx =>
    intro r an env ds w K n Q ws a0 a h ha hws hQ
    simp only [den] at h
    refine ku (ihx r an env ds w _ n _ ws a0 a h ha hws ?_)
    intro e env' ds' w' a' ha' hds hk
    cases e with
    | goto l => exact hk.elim
    | _ => exact hQ _ _ _ _ _ ha' hds hk
  | goto l => intro r an env ds w K n Q ws a0 a h ha hws hQ; exact h.elim
  | refuse y => intro r an env ds w K n Q ws a0 a h ha hws hQ; exact h.elim
end
end Gp
end
section
namespace Gp
open Go
@[reducible] def qO : List Kind -> Type
  | [] => World -> Prop
  | k :: r => k.T -> qO r
def flat : List Shape -> List Kind
  | [] => []
  | .one k :: r => k :: flat r
  | .agg ks :: r => ks ++ flat r
def BG : (ks : List Kind) -> (rest : List Kind) -> List Value -> qO (ks ++ rest) -> (qO rest -> Prop) -> Prop
  | [], _, [], c, φ => φ c
  | k :: ks, rest, v :: vs, c, φ => k.dec v fun x => BG ks rest vs (c x) φ
  | _, _, _, _, _ => False
def qm : (sh : List Shape) -> List Value -> qO (flat sh) -> World -> Prop
  | [], [], c, w => c w
  | .one k :: r, v :: vs, c, w => k.dec v fun x => qm r vs (c x) w
  | .agg ks :: r, v :: vs, c, w => match v with
    | .agg cs => BG ks (flat r) cs.toList c fun c' => qm r vs c' w
    | _ => False
  | _, _, _, _ => False
def wP : (ks : List Kind) -> (rest : List Kind) -> qO (ks ++ rest) -> (List Value -> qO rest -> Prop) -> Prop
  | [], _, c, φ => φ [] c
  | k :: ks, rest, c, φ => ∃ x : k.T, wP ks rest (c x) fun vs c' => φ (k.enc x :: vs) c'
def wQ : (sh : List Shape) -> qO (flat sh) -> (List Value -> Prop) -> World -> Prop
  | [], c, φ, w => φ [] ∧ c w
  | .one k :: r, c, φ, w => ∃ x : k.T, wQ r (c x) (fun vs => φ (k.enc x :: vs)) w
  | .agg ks :: r, c, φ, w => wP ks (flat r) c fun vs c' => wQ r c' (fun us => φ (.agg ⟨vs⟩ :: us)) w
theorem BL : ∀ (ks rest : List Kind) (vs : List Value) (c : qO (ks ++ rest)) (φ : qO rest -> Prop), BG ks rest vs c φ ->
    ∀ ψ : List Value -> qO rest -> Prop, (∀ c', φ c' -> ψ vs c') -> wP ks rest c ψ := by
  intro ks
  induction ks with
  | nil =>
    intro rest vs c φ h ψ hψ
    cases vs with
    | nil => exact hψ c h
    | cons v vs => exact h.elim
  | cons k ks ih =>
    intro rest vs c φ h ψ hψ
    cases vs with
    | nil => exact h.elim
    | cons v vs =>
      obtain ⟨x, hx, h'⟩ := jT h
      subst hx
      exact ⟨x, ih rest vs (c x) φ h' _ hψ⟩
theorem DF : ∀ (sh : List Shape) (vs : List Value) (c : qO (flat sh)) (w : World), qm sh vs c w -> ∀ φ : List Value -> Prop, φ vs -> wQ sh c φ w := by
  intro sh
  induction sh with
  | nil =>
    intro vs c w h φ hφ
    cases vs with
    | nil => exact ⟨hφ, h⟩
    | cons v vs => exact h.elim
  | cons s sh ih =>
    intro vs c w h φ hφ
    cases s with
    | one k =>
      cases vs with
      | nil => exact h.elim
      | cons v vs =>
        obtain ⟨x, hx, h'⟩ := jT h
        subst hx
        exact ⟨x, ih vs (c x) w h' (fun vs => φ (k.enc x :: vs)) hφ⟩
    | agg ks =>
      cases vs with
      | nil => exact h.elim
      | cons v vs =>
        cases v with
        | agg cs => exact BL ks (flat sh) cs.toList c _ h _ fun c' h' => ih vs c' w h' (fun us => φ (.agg ⟨cs.toList⟩ :: us)) hφ
        | _ => exact h.elim
def iE : List Nat -> World -> (World -> Prop) -> Prop
  | [], w, K => K w
  | D :: ds, w, K => w.heap[D]? = some (.deferred (some [])) ∧ iE ds (w.putObj D (.deferred none)) K
def bZ (P : Program) : List ResultVar -> Env -> World -> (List Value -> Prop) -> Prop
  | [], _, _, φ => φ []
  | .tmp t :: r, env, w, φ => match env.get t with
    | some v => bZ P r env w fun vs => φ (v :: vs)
    | none => False
  | .cell a t :: r, env, w, φ => match env.get a, shapeOf P t, au P t with
    | some (.pointer (some ad)), some sh, some n => cond (Nat.beq sh.cells n) (sh.ld w ad fun v => bZ P r env w fun vs => φ (v :: vs)) False
    | _, _, _ => False
def IJ (P : Program) (rs : List ResultVar) (sh : List Shape) (Post : qO (flat sh)) (e : Exit) (env : Env) (ds : List Nat) (w : World) : Prop :=
  match e with
  | .normal => iE ds w fun w' => bZ P rs env w' fun vs => qm sh vs Post w'
  | .ret => iE ds w fun w' => bZ P rs env w' fun vs => qm sh vs Post w'
  | _ => False
def jf : Nat -> List Value -> Env
  | _, [] => []
  | i, v :: vs => (i, v) :: jf (i + 1) vs
theorem qI : ∀ (vs : List Value) (i s : Nat) (v : Value), Env.get (jf i vs) s = some v -> i <= s ∧ vs[s - i]? = some v := by
  intro vs
  induction vs with
  | nil => intro i s v h; simp [jf, Env.get] at h
  | cons u vs ih =>
    intro i s v h
    simp only [jf, aI] at h
    by_cases e : i = s
    · subst e; simp at h; simp [h]
    · rw [if_neg e] at h
      obtain ⟨h1, h2⟩ := ih _ _ _ h
      refine ⟨by omega, ?_⟩
      obtain ⟨m, hm⟩ : ∃ m, s - i = m + 1 := ⟨s - i - 1, by omega⟩
      rw [hm]
      have : s - (i + 1) = m := by omega
      rw [this] at h2
      simpa using h2
section
variable {P : Program}
def resV (tmps : Array Value) (x : ResultVar) : Sem Value :=
  match x with
  | .tmp t => pure (tmps.getD t undef)
  | .cell b t => do loadVar t (<- asAddr (tmps.getD b undef))
theorem w_ {a : Act} {env : Env} {w : World} (ha : zD env a) : ∀ (rs : List ResultVar) (φ : List Value -> Prop), bZ P rs env w φ ->
    ∃ vs, (rs.mapM (resV a.tmps)).run P w = .ok vs w ∧ φ vs := by
  intro rs
  induction rs with
  | nil => exact fun φ h => ⟨[], by simp, h⟩
  | cons x rs ih =>
    intro φ h
    cases x with
    | tmp t =>
      simp only [bZ] at h
      cases hg : env.get t with
      | none => simp only [hg] at h
      | some v =>
        simp only [hg] at h
        obtain ⟨vs, hr, hφ⟩ := ih _ h
        have := ha t v hg
        refine ⟨v :: vs, ?_, hφ⟩
        rw [List.mapM_cons]
        simp only [resV, Sem.run_bind, Sem.run_pure, Result.andThen_ok, Array.getD_eq_getD_getElem?, this, Option.getD_some, hr]
    | cell b t =>
      simp only [bZ] at h
      split at h
      · rename_i ad sh n hg hs hn
        cases hb : Nat.beq sh.cells n with
        | false => rw [hb] at h; exact h.elim
        | true =>
          rw [hb] at h
          obtain ⟨v, hv, h⟩ := nH (P := P) hs hn (Nat.eq_of_beq_eq_true hb) h
          obtain ⟨vs, hr, hφ⟩ := ih _ h
          have := ha b _ hg
          refine ⟨v :: vs, ?_, hφ⟩
          rw [List.mapM_cons]
          simp only [resV, Sem.run_bind, Sem.run_pure, Result.andThen_ok, Array.getD_eq_getD_getElem?, this, Option.getD_some, asAddr, hv, hr]
      · exact h.elim
theorem vI {fn : Func} {a : Act} {env : Env} {w : World} (ha : zD env a) {φ : List Value -> Prop} (h : bZ P fn.results.toList env w φ) :
    ∃ vs, (results fn a.tmps).run P w = .ok (aY vs) w ∧ φ vs := by
  obtain ⟨vs, hr, hφ⟩ := w_ ha _ _ h
  refine ⟨vs, ?_, hφ⟩
  have e : results fn a.tmps = (do let vs <- fn.results.mapM (resV a.tmps); pure (if h : vs.size = 1 then vs[0] else .tuple vs)) := rfl
  rw [e, Array.mapM_eq_mapM_toList]
  simp only [Sem.run_bind, Sem.run_map]
  rw [hr]
  simp only [Result.andThen_ok, Sem.run_pure]
  congr 1
  match vs with
  | [] => rfl
  | [v] => rfl
  | v :: u :: vs => rfl
theorem lD {fn : Func} {a : Act} {env : Env} (ha : zD env a) {R : Ending -> World -> Prop} {φ : List Value -> World -> Prop} (hR : ∀ vs w, φ vs w -> R (.returned (aY vs)) w) :
    ∀ (ds : List Nat) (w : World), iE ds w (fun w' => bZ P fn.results.toList env w' fun vs => φ vs w') -> LeavesInM (Fr none) 0 P fn a.tmps R (Dz ds) .returning w := by
  intro ds
  induction ds with
  | nil =>
    intro w h
    obtain ⟨vs, hr, hφ⟩ := vI ha h
    exact ⟨_, hr, hR _ _ hφ⟩
  | cons D ds ih =>
    intro w h
    obtain ⟨h1, h2⟩ := h
    exact ⟨by simp, .inl ⟨D, _, rfl, run_takeDeferred h1, ih _ h2⟩⟩
theorem DX (hP : jA P) {f : FuncId} {fn : Func} {c : Code} {nt : Nat} (hf : P.funcs[f]? = some fn) (hb : fn.body = some c) (hnt : fn.ntmps = nt) {rs : List ResultVar} (hrs : fn.results = ⟨rs⟩)
    (sh : List Shape) (Post : qO (flat sh)) (an : iZ) (args : List Value) (hl : Nat.ble args.length nt = true) (w : World) (h : den P nt c none an (jf 0 args) [] w (IJ P rs sh Post)) :
    Calls P f ⟨args⟩ w fun e w' => wQ sh Post (fun us => e = .returned (aY us)) w' := by
  refine (callsIn_wide (n := 0)).1 ?_
  refine callsIn_of_wp_marks (F := Fr none) hf hb trivial ?_ rfl
  have hsz : ((⟨args⟩ : Array Value) ++ Array.replicate (fn.ntmps - (⟨args⟩ : Array Value).size) undef).size = nt := by
    have := Nat.le_of_ble_eq_true hl
    simp [hnt]; omega
  refine rH hP nt c none an _ [] w _ 0 _ (writes c) _ _ h ⟨fun s v hs => ?_, hsz, rfl, fun _ _ => rfl⟩ (fun s hs => hs) ?_
  · obtain ⟨_, h2⟩ := qI _ _ _ _ hs
    have hlt := (List.getElem?_eq_some_iff.1 h2).1
    simp only [Nat.sub_zero] at h2 hlt
    show ((⟨args⟩ : Array Value) ++ Array.replicate (fn.ntmps - (⟨args⟩ : Array Value).size) undef)[s]? = some v
    rw [Array.getElem?_append_left (by simpa using hlt)]
    simpa using h2
  · intro e env' ds' w' a' ha' _ hk
    have hcl : ∀ w', iE ds' w' (fun w' => bZ P rs env' w' fun vs => qm sh vs Post w') ->
        LeavesInM (Fr none) 0 P fn a'.tmps (fun e w' => wQ sh Post (fun us => e = .returned (aY us)) w') a'.defers .returning w' := by
      intro w' hw'
      rw [ha'.defers]
      have hrs' : fn.results.toList = rs := by rw [hrs]
      rw [<- hrs'] at hw'
      exact lD ha'.agr (φ := fun vs w' => qm sh vs Post w') (fun vs w hd => DF sh vs Post w hd (fun us => Ending.returned (aY vs) = .returned (aY us)) rfl) ds' w' hw'
    cases e with
    | normal => exact hcl w' hk
    | ret => exact hcl w' hk
    | _ => exact hk.elim
theorem jA.FQ (h : (P.funcs.toList.all fun fn => !(fn.name == "runtime.NumGoroutine")) = true) (hm : P.follows .mixedOrders = true) : jA P := by
  refine ⟨fun f fn hf _ => ?_, hm⟩
  rw [List.all_eq_true] at h
  have := h fn (List.mem_of_getElem? (by simpa using hf))
  simpa using this
end
def bs (l : List UInt8) : ByteArray := ⟨⟨l⟩⟩
def Al (w : World) (o : Obj) (K : Addr -> World -> Prop) : Prop := K ⟨w.heap.size, 0, none⟩ (w.alloc o)
end Gp
end
section
namespace Gp
open Go
def Row (w : World) (b : Nat) (l : List Value) : Prop := ∃ T, w.heap[b]? = some (.cells ⟨l⟩ T (0, 0))
structure b_ (w w' : World) (S : Nat -> Prop) : Prop where
  size : w.heap.size <= w'.heap.size
  same : ∀ b, b < w.heap.size -> ¬ S b -> w'.heap[b]? = w.heap[b]?
  io : w'.os = w.os ∧ w'.tape = w.tape ∧ w'.output = w.output
theorem aJ (b o n : Nat) : (⟨b, o, none⟩ : Addr).add n = ⟨b, o + n, none⟩ := by
  unfold Addr.add
  by_cases h : n = 0
  · simp [h]
  · simp [h]
section
variable {w w' w1 w2 : World} {b b' i : Nat} {l l' : List Value} {S S' : Nat -> Prop}
theorem Row.lt (h : Row w b l) : b < w.heap.size := by
  obtain ⟨T, h⟩ := h
  exact (Array.getElem?_eq_some_iff.1 h).1
theorem Row.cell (h : Row w b l) (i : Nat) : w.cell? ⟨b, i, none⟩ = l[i]? := by
  obtain ⟨T, h⟩ := h
  simp [World.cell?, h]
theorem Row.frozen (h : Row w b l) (i : Nat) : w.frozen? ⟨b, i, none⟩ = false := by
  obtain ⟨T, h⟩ := h
  simp [World.frozen?, h]
theorem b_.refl (w : World) (S : Nat -> Prop) : b_ w w S := ⟨Nat.le_refl _, fun _ _ _ => rfl, rfl, rfl, rfl⟩
theorem b_.trans (h : b_ w w1 S) (h' : b_ w1 w2 S') (hs : ∀ b, b < w.heap.size -> S' b -> S b) : b_ w w2 S :=
  ⟨Nat.le_trans h.size h'.size, fun b hb hn => (h'.same b (Nat.lt_of_lt_of_le hb h.size) fun x => hn (hs b hb x)).trans (h.same b hb hn), h'.io.1.trans h.io.1, h'.io.2.1.trans h.io.2.1, h'.io.2.2.trans h.io.2.2⟩
theorem b_.mono (h : b_ w w1 S) (hs : ∀ b, S b -> S' b) : b_ w w1 S' := ⟨h.size, fun b hb hn => h.same b hb fun x => hn (hs b x), h.io⟩
theorem b_.drew (w : World) (S : Nat -> Prop) : b_ w w.drew S := ⟨Nat.le_refl _, fun _ _ _ => rfl, rfl, rfl, rfl⟩
theorem b_.alloc (w : World) (o : Obj) (S : Nat -> Prop) : b_ w (w.alloc o) S :=
  ⟨by simp, fun b hb _ => by simp [World.alloc, -World.alloc_eq, Array.getElem?_push]; omega, rfl, rfl, rfl⟩
theorem b_.set (w : World) (a : Addr) (v : Value) (hs : S a.block) : b_ w (w.setCell a v) S := by
  refine ⟨by simp, fun b hb hn => ?_, rfl, rfl, rfl⟩
  have : ¬ (a.block = b) := fun e => hn (e ▸ hs)
  simp [World.setCell, Array.getElem?_modify, this]
theorem Row.fr (h : Row w b l) (hf : b_ w w' S) (hs : ¬ S b) : Row w' b l := by
  have hl := h.lt
  obtain ⟨T, h⟩ := h
  exact ⟨T, (hf.same b hl hs).trans h⟩
theorem Row.drew (h : Row w b l) : Row w.drew b l := h
theorem Row.new (w : World) (l : List Value) (T : TypeId) : Row (w.alloc (.cells ⟨l⟩ T)) w.heap.size l := ⟨T, World.alloc_heap_new w _⟩
theorem Row.set (h : Row w b l) (i : Nat) (v : Value) : Row (w.setCell ⟨b, i, none⟩ v) b (l.set i v) := by
  obtain ⟨T, h⟩ := h
  refine ⟨T, ?_⟩
  simp only [World.setCell, Array.getElem?_modify, if_true, h, Option.map_some]
  congr 2
  simp [Array.setIfInBounds]
  intro hx
  rw [List.set_eq_of_length_le hx]
theorem FU {T : TypeId} {K : Addr -> World -> Prop} (h : ∀ b w1, Row w1 b l -> b = w.heap.size -> w1.heap.size = b + 1 -> (∀ S, b_ w w1 S) -> K ⟨b, 0, none⟩ w1) : Al w (.cells ⟨l⟩ T) K :=
  h _ _ (Row.new w l T) rfl (by simp) (fun S => b_.alloc w _ S)
theorem BJ {v : Value} {K : World -> Prop} (hr : Row w b l) (h1 : bM v = true) (hi : i < l.length)
    (h : ∀ w1, Row w1 b (l.set i v) -> (∀ S : Nat -> Prop, S b -> b_ w w1 S) -> w1.heap.size = w.heap.size -> K w1) : St w ⟨b, i, none⟩ v K :=
  ⟨h1, by rw [hr.cell]; simp [hi], hr.frozen i, h _ (hr.set i v) (fun S hs => b_.set w _ v hs) (by simp)⟩
theorem EI {K : World -> Prop} : ∀ (vs : List Value) (w : World) (l : List Value) (o i : Nat), Row w b l -> (∀ v ∈ vs, bM v = true) -> o + i + vs.length <= l.length ->
    (∀ w1, Row w1 b (l.take (o + i) ++ vs ++ l.drop (o + i + vs.length)) -> (∀ S : Nat -> Prop, S b -> b_ w w1 S) -> w1.heap.size = w.heap.size -> K w1) -> tC vs w ⟨b, o, none⟩ i K := by
  intro vs
  induction vs with
  | nil =>
    intro w l o i hr _ _ h
    exact h w (by simpa using hr) (fun S _ => b_.refl _ _) rfl
  | cons v vs ih =>
    intro w l o i hr hv hl h
    simp only [List.length_cons] at hl
    show St w ((⟨b, o, none⟩ : Addr).add i) v _
    rw [aJ]
    refine BJ hr (hv v (List.mem_cons_self ..)) (by omega) fun w1 r1 f1 z1 => ?_
    refine ih w1 _ o (i + 1) r1 (fun u hu => hv u (List.mem_cons_of_mem _ hu)) (by rw [List.length_set]; omega) fun w2 r2 f2 z2 => ?_
    refine h w2 ?_ (fun S hs => (f1 S hs).trans (f2 S hs) fun _ _ e => e) (by omega)
    have e1 : (l.set (o + i) v).take (o + (i + 1)) = l.take (o + i) ++ [v] := by
      rw [<- Nat.add_assoc, List.take_succ_eq_append_getElem (by simp; omega), List.take_set_of_le (by omega)]
      simp
    have e2 : (l.set (o + i) v).drop (o + (i + 1) + vs.length) = l.drop (o + i + (vs.length + 1)) := by
      rw [List.drop_set_of_lt (by omega)]
      congr 1; omega
    rw [e1, e2] at r2
    simpa using r2
end
theorem lX {α : Type} (f : α -> List Value) (k : Nat) (hf : ∀ x, (f x).length = k) (xs : List α) : (xs.flatMap f).length = xs.length * k := by
  induction xs with
  | nil => simp
  | cons x xs ih => simp [List.flatMap_cons, hf, ih, Nat.add_mul]; omega
theorem flat_get {α : Type} (f : α -> List Value) (k : Nat) (hf : ∀ x, (f x).length = k) : ∀ (xs : List α) (i j : Nat), j < k -> (xs.flatMap f)[i * k + j]? = (xs[i]?).bind fun x => (f x)[j]? := by
  intro xs
  induction xs with
  | nil => intro i j _; simp
  | cons x xs ih =>
    intro i j hj
    rw [List.flatMap_cons]
    cases i with
    | zero => rw [List.getElem?_append_left (by rw [hf]; omega)]; simp
    | succ i =>
      rw [List.getElem?_append_right (by rw [hf, Nat.add_mul]; omega), hf]
      rw [show (i + 1) * k + j - k = i * k + j by rw [Nat.add_mul]; omega, ih i j hj]
      simp
theorem wrap_i64 {n : Int} (h1 : -9223372036854775808 <= n) (h2 : n <= 9223372036854775807) : IntKind.i64.wrap n = n := by
  rw [IntKind.wrap_i64]; omega
def Jk (k : Kind) : Option Value -> (k.T -> Prop) -> Prop
  | some v, K => k.dec v K
  | none, _ => False
theorem yY (k : IntKind) (n : Int) (K : Int -> Prop) : Kind.dec (.int k) (.int k n) K = K n := by cases k <;> rfl
theorem CZ (b : Bool) (K : Bool -> Prop) : Kind.dec .bool (.bool b) K = K b := rfl
theorem Ei (b : ByteArray) (K : ByteArray -> Prop) : Kind.dec .str (.string b) K = K b := rfl
theorem ES (a : Option Addr) (K : Option Addr -> Prop) : Kind.dec .ptr (.pointer a) K = K a := rfl
theorem Aa (a : Option Addr) (l c : Nat) (K : ah -> Prop) : Kind.dec .slice (.slice a l c) K = K ⟨a, l, c⟩ := rfl
theorem EO (r : Option Nat) (K : Option Nat -> Prop) : Kind.dec .map (.map r) K = K r := rfl
theorem zu (v : Value) (K : Value -> Prop) : Kind.dec .any v K = K v := by cases v <;> rfl
theorem lZ (k : Kind) (x : k.T) (K : k.T -> Prop) : k.dec (k.enc x) K = K x := by
  cases k with
  | int k => exact yY k x K
  | any => exact zu x K
  | _ => rfl
theorem Ip (k : Kind) (w : World) (a : Addr) (K : k.T -> Prop) : Ld k w a K ↔ Jk k (w.cell? a) K := by
  constructor
  · rintro ⟨x, hx, h⟩
    rw [hx]
    show k.dec (k.enc x) K
    rw [lZ]; exact h
  · intro h
    cases hc : w.cell? a with
    | none => rw [hc] at h; exact h.elim
    | some v =>
      rw [hc] at h
      obtain ⟨x, hx, h⟩ := jT h
      exact ⟨x, by rw [hc, hx], h⟩
theorem DK (k : Kind) (v : Value) (K : k.T -> Prop) : Jk k (some v) K = k.dec v K := rfl
theorem zF (a : Addr) (l c size : Nat) (i : Int) (K : Addr -> Prop) : Es ⟨some a, l, c⟩ size i K ↔ (0 <= i ∧ i < (l : Int) ∧ K (a.add (i.toNat * size))) := by
  constructor
  · rintro ⟨a', h, h0, h1, h2⟩
    cases h
    exact ⟨h0, h1, h2⟩
  · rintro ⟨h0, h1, h2⟩
    exact ⟨a, rfl, h0, h1, h2⟩
theorem EW {α : Type} (x : α) (P : α -> Prop) : (∃ a, some x = some a ∧ P a) ↔ P x := by
  constructor
  · rintro ⟨a, h, hp⟩; cases h; exact hp
  · exact fun h => ⟨x, rfl, h⟩
end Gp
end
section
namespace Gp
open Go Go.ChangeShapes Go.WideShapes
inductive aO
  | bool | int (k : IntKind) | str
  | slice (e : aO) (n : Nat)
  | agg (r : aO)
  | nil | cons (d : aO) (n : Nat) (r : aO)
  | arr (k : Nat) (d : aO) (n : Nat)
def aO.T : aO -> Type
  | .bool => Bool
  | .int _ => Int
  | .str => ByteArray
  | .slice e _ => ah × List e.T
  | .agg r => r.T
  | .nil => Unit
  | .cons d _ r => d.T × r.T
  | .arr _ d _ => List d.T
def aO.cells : (d : aO) -> d.T -> List Value
  | .bool, b => [.bool b]
  | .int k, n => [.int k n]
  | .str, s => [.string s]
  | .slice _ _, x => [.slice x.1.a x.1.len x.1.cap]
  | .agg r, x => r.cells x
  | .nil, _ => []
  | .cons d _ r, x => d.cells x.1 ++ r.cells x.2
  | .arr _ d _, xs => xs.flatMap d.cells
def oN {α : Type} (w : World) (s : ah) (n : Nat) (f : α -> List Value) (xs : List α) : Prop :=
  s.len = xs.length ∧ s.len <= s.cap ∧ s.cap <= maxLen ∧ (xs ≠ [] -> ∃ b o, s.a = some ⟨b, o, none⟩ ∧ b < w.heap.size ∧ ∀ i x, xs[i]? = some x -> (f x).length = n ∧ ∀ j v, (f x)[j]? = some v -> w.cell? ⟨b, o + i * n + j, none⟩ = some v)
def Ig {α : Type} (k : Nat) (p : α -> Prop) (xs : List α) : Prop := xs.length = k ∧ ∀ y ∈ xs, p y
def aO.In (w : World) : (d : aO) -> d.T -> Prop
  | .bool, _ => True
  | .int k, n => (Lit.int k n).wf = true
  | .str, s => s.size <= maxLen
  | .slice e n, x => oN w x.1 n e.cells x.2 ∧ ∀ y ∈ x.2, e.In w y
  | .agg r, x => r.In w x
  | .nil, _ => True
  | .cons d _ r, x => d.In w x.1 ∧ r.In w x.2
  | .arr k d _, xs => Ig k (fun y : d.T => d.In w y) xs
def aO.ok (P : Program) : aO -> Sum TypeId (Nat × Nat × List Field) -> Bool
  | .bool, .inl t => match P.underlying t with | some .bool => true | _ => false
  | .int k, .inl t => match P.underlying t with | some (.int k') => decide (k' = k) | _ => false
  | .str, .inl t => match P.underlying t with | some .string => true | _ => false
  | .slice e n, .inl t => match P.underlying t with | some (.slice e') => Nat.beq (P.cellsOf e') n && Nat.blt 0 n && e.ok P (.inl e') | _ => false
  | .agg r, .inl t => match P.underlying t with | some (.struct fs) => r.ok P (.inr (0, P.cellsOf t, fs.toList)) | _ => false
  | .arr k d n, .inl t => match P.underlying t with | some (.array k' e') => Nat.beq k' k && Nat.beq (P.cellsOf e') n && Nat.beq (P.cellsOf t) (k * n) && d.ok P (.inl e') | _ => false
  | .nil, .inr (o, n, []) => Nat.beq o n
  | .cons d n r, .inr (o, m, f :: fs) => Nat.beq f.offset o && Nat.beq (P.cellsOf f.type) n && d.ok P (.inl f.type) && r.ok P (.inr (o + n, m, fs))
  | _, _ => false
theorem sG {α : Type} {n : Nat} {p : Nat -> α -> Prop} (h : ∀ i, i < n -> ∃ x, p i x) : ∃ xs : List α, xs.length = n ∧ ∀ i x, xs[i]? = some x -> p i x := by
  induction n with
  | zero => exact ⟨[], rfl, fun i x h => by simp at h⟩
  | succ n ih =>
    obtain ⟨xs, hl, hx⟩ := ih fun i hi => h i (by omega)
    obtain ⟨y, hy⟩ := h n (by omega)
    refine ⟨xs ++ [y], by simp [hl], fun i x hi => ?_⟩
    by_cases hlt : i < n
    · rw [List.getElem?_append_left (by omega)] at hi
      exact hx i x hi
    · have hlen := (List.getElem?_eq_some_iff.1 hi).1
      simp only [List.length_append, List.length_singleton] at hlen
      have : i = n := by omega
      subst this
      rw [List.getElem?_append_right (by omega)] at hi
      simp [hl] at hi
      exact hi ▸ hy
theorem EM {α : Type} (f : α -> List Value) (n : Nat) : ∀ (xs : List α) (cs : List Value), cs.length = xs.length * n -> (∀ i x, xs[i]? = some x -> (cs.drop (i * n)).take n = f x) -> cs = xs.flatMap f := by
  intro xs
  induction xs with
  | nil => intro cs hl _; simpa using hl
  | cons x xs ih =>
    intro cs hl h
    have h0 := h 0 x rfl
    simp at h0
    have := ih (cs.drop n) (by simp [hl, Nat.add_mul]) fun i y hi => by
      have := h (i + 1) y (by simpa using hi)
      rwa [Nat.add_mul, Nat.one_mul, Nat.add_comm, <- List.drop_drop] at this
    rw [List.flatMap_cons, <- h0, <- this, List.take_append_drop]
section
variable {H : Type} {enc : TypeId × Value -> H} {P : Program} {w : World} {base : Nat} {sp : Nat -> Bool} {held : Bool}
theorem beq_iff {a b : Nat} : Nat.beq a b = true ↔ a = b := ⟨Nat.eq_of_beq_eq_true, fun h => by subst h; simp⟩
theorem aO.open (d : aO) : (∀ (t : TypeId), d.ok P (.inl t) = true -> ∀ (fuel : Nat) (cs : List Value) (x : DataW H × List MemPlace), DataW.trod enc P w base sp held fuel t cs = some x -> ∃ v : d.T, cs = d.cells v ∧ d.In w v) ∧
    (∀ (o m : Nat) (fs : List Field), d.ok P (.inr (o, m, fs)) = true -> ∀ (fuel : Nat) (cs : List Value), cs.length = m -> (∀ f ∈ fs, ∃ x, DataW.trod enc P w base sp held fuel f.type ((cs.drop f.offset).take (P.cellsOf f.type)) = some x) -> ∃ v : d.T, cs.drop o = d.cells v ∧ d.In w v) := by
  induction d with
  | bool =>
    refine ⟨fun t ht fuel cs x h => ?_, fun o m fs h => by simp [aO.ok] at h⟩
    simp only [aO.ok] at ht
    split at ht
    · rename_i hu
      obtain ⟨b, rfl, _⟩ := DataW.trod_bool hu h
      exact ⟨b, rfl, trivial⟩
    · cases ht
  | int k =>
    refine ⟨fun t ht fuel cs x h => ?_, fun o m fs h => by simp [aO.ok] at h⟩
    simp only [aO.ok] at ht
    split at ht
    · rename_i k' hu
      have := of_decide_eq_true ht
      subst this
      obtain ⟨n, rfl, _, hw⟩ := DataW.trod_int hu h
      exact ⟨n, rfl, hw⟩
    · cases ht
  | str =>
    refine ⟨fun t ht fuel cs x h => ?_, fun o m fs h => by simp [aO.ok] at h⟩
    simp only [aO.ok] at ht
    split at ht
    · rename_i hu
      obtain ⟨b, rfl, _, hw⟩ := DataW.trod_string hu h
      exact ⟨b, rfl, hw⟩
    · cases ht
  | slice e n ih =>
    refine ⟨fun t ht fuel cs x h => ?_, fun o m fs h => by simp [aO.ok] at h⟩
    simp only [aO.ok] at ht
    split at ht
    case h_2 => cases ht
    rename_i e' hu
    simp only [Bool.and_eq_true, beq_iff, Nat.blt_eq] at ht
    obtain ⟨⟨hn, hpos⟩, he⟩ := ht
    rcases Go.Deep.open_slice hu h with ⟨rfl, rfl⟩ | ⟨a, len, cap, m, g, D, Pl, rfl, hb, hl, hm, hmm, rfl, hx⟩
    · exact ⟨(⟨none, 0, 0⟩, []), rfl, ⟨rfl, Nat.le_refl _, by simp [maxLen], fun h => absurd rfl h⟩, fun y hy => by simp at hy⟩
    · have hlm : len <= m := by rw [hmm]; split <;> omega
      obtain ⟨xs, hxl, hxs⟩ := sG (n := len) (p := fun i (v : e.T) => (e.cells v).length = n ∧ (∀ j, j < n -> w.cell? (a.add (i * n + j)) = (e.cells v)[j]?) ∧ e.In w v) fun i hi => by
        obtain ⟨cs', h1, h2⟩ := hx i (by omega)
        obtain ⟨_, hlen, hcell⟩ := World.cells?_some h1
        obtain ⟨v, rfl, hv⟩ := ih.1 e' he _ _ _ h2
        rw [hn] at hlen hcell
        exact ⟨v, hlen, fun j hj => by rw [<- Go.Deep.add_add]; exact hcell j hj, hv⟩
      refine ⟨(⟨some a, len, cap⟩, xs), rfl, ⟨by simp [hxl], hl, hm, fun hne => ?_⟩, fun y hy => ?_⟩
      · obtain ⟨b, o, spot⟩ := a
        have hx0 : ∃ x0, xs[0]? = some x0 := by cases xs with
          | nil => exact absurd rfl hne
          | cons x _ => exact ⟨x, rfl⟩
        obtain ⟨x0, hx0⟩ := hx0
        obtain ⟨l0, c0, _⟩ := hxs 0 x0 hx0
        have c00 := c0 0 hpos
        rw [List.getElem?_eq_getElem (by omega)] at c00
        have hs := World.cell?_spot c00
        have hspot : spot = none := by simpa [Addr.add] using hs
        subst hspot
        refine ⟨b, o, rfl, ?_, fun i x hi => ⟨(hxs i x hi).1, fun j v hj => ?_⟩⟩
        · simp only [Nat.zero_mul, Nat.zero_add] at c00
          rw [aJ] at c00
          unfold World.cell? at c00
          cases hb : w.heap[b]? with
          | none => simp [hb] at c00
          | some o => exact (Array.getElem?_eq_some_iff.1 hb).1
        · have := (hxs i x hi).2.1 j (by rw [<- (hxs i x hi).1]; exact (List.getElem?_eq_some_iff.1 hj).1)
          rw [aJ, hj] at this
          rw [Nat.add_assoc]; exact this
      · obtain ⟨i, hi⟩ := List.getElem?_of_mem hy
        exact (hxs i y hi).2.2
  | agg r ih =>
    refine ⟨fun t ht fuel cs x h => ?_, fun o m fs h => by simp [aO.ok] at h⟩
    simp only [aO.ok] at ht
    split at ht
    case h_2 => cases ht
    rename_i fs hu
    obtain ⟨xs, n, rfl, _, hl, hxl, hf⟩ := DataW.trod_struct hu h
    obtain ⟨v, hv, hi⟩ := ih.2 0 _ _ ht n cs hl fun f hf' => by
      obtain ⟨i, hi⟩ := List.getElem?_of_mem hf'
      have hi' : fs[i]? = some f := by simpa using hi
      have := hf i f hi'
      have hlt : i < xs.length := by
        rw [hxl]
        exact (Array.getElem?_eq_some_iff.1 hi').1
      rw [List.getElem?_eq_getElem hlt] at this
      exact ⟨_, this⟩
    exact ⟨v, hv, hi⟩
  | nil =>
    refine ⟨fun t h => by simp [aO.ok] at h, fun o m fs h fuel cs hl hf => ?_⟩
    cases fs with
    | nil =>
      simp only [aO.ok, beq_iff] at h
      subst h
      exact ⟨(), by simp [aO.cells, hl], trivial⟩
    | cons f fs => simp [aO.ok] at h
  | cons d n r ihd ihr =>
    refine ⟨fun t h => by simp [aO.ok] at h, fun o m fs h fuel cs hl hf => ?_⟩
    cases fs with
    | nil => simp [aO.ok] at h
    | cons f fs =>
      simp only [aO.ok, Bool.and_eq_true, beq_iff] at h
      obtain ⟨⟨⟨h1, h2⟩, h3⟩, h4⟩ := h
      obtain ⟨x, hx⟩ := hf f (List.mem_cons_self ..)
      obtain ⟨v, hv, hiv⟩ := ihd.1 _ h3 _ _ _ hx
      obtain ⟨u, hu, hiu⟩ := ihr.2 _ _ _ h4 fuel cs hl fun g hg => hf g (List.mem_cons_of_mem _ hg)
      refine ⟨(v, u), ?_, hiv, hiu⟩
      rw [h1, h2] at hv
      show cs.drop o = d.cells v ++ r.cells u
      rw [<- hv, <- hu, <- List.drop_drop, List.take_append_drop]
  | arr k d n ih =>
    refine ⟨fun t ht fuel cs x h => ?_, fun o m fs h => by simp [aO.ok] at h⟩
    simp only [aO.ok] at ht
    split at ht
    case h_2 => cases ht
    rename_i k' e' hu
    simp only [Bool.and_eq_true, beq_iff] at ht
    obtain ⟨⟨⟨hk, hn⟩, hc⟩, he⟩ := ht
    obtain ⟨xs, g, rfl, _, hl, hxl, hf⟩ := DataW.trod_array hu h
    obtain ⟨vs, hvl, hvs⟩ := sG (n := k) (p := fun i (v : d.T) => (cs.drop (i * n)).take n = d.cells v ∧ d.In w v) fun i hi => by
      have := hf i (by omega)
      rw [List.getElem?_eq_getElem (by omega)] at this
      rw [hn] at this
      exact ih.1 _ he _ _ _ this
    refine ⟨vs, ?_, hvl, fun y hy => ?_⟩
    · exact EM d.cells n vs cs (by rw [hl, hc, hvl]) fun i x hi => (hvs i x hi).1
    · obtain ⟨i, hi⟩ := List.getElem?_of_mem hy
      exact (hvs i y hi).2
def aO.value : (d : aO) -> d.T -> Value
  | .bool, b => .bool b
  | .int k, n => .int k n
  | .str, s => .string s
  | .slice _ _, x => .slice x.1.a x.1.len x.1.cap
  | .agg r, x => .agg ⟨r.cells x⟩
  | .nil, _ => .agg #[]
  | .cons d n r, x => .agg ⟨(aO.cons d n r).cells x⟩
  | .arr k d n, xs => .agg ⟨(aO.arr k d n).cells xs⟩
theorem aO.arg (d : aO) {base0 : Nat} {t : TypeId} {v : Value} {y : DataW H} {ps : List MemPlace} (ht : d.ok P (.inl t) = true) (hval : Value.okWide P w .any base0 t v) (h : DataW.Trod enc P w base sp held t v y ps) : ∃ x : d.T, v = d.value x ∧ d.In w x := by
  obtain ⟨fuel, h⟩ := h
  obtain ⟨x, hc, hi⟩ := d.open.1 t ht fuel _ _ h
  refine ⟨x, ?_, hi⟩
  unfold Value.okWide at hval
  cases d with
  | bool =>
    simp only [aO.ok] at ht
    split at ht
    · rename_i hu
      simp only [hu, Cell.okWide] at hval
      cases v <;> simp_all [Cell.ok, Value.cells, aO.cells, aO.value]
    · cases ht
  | int k =>
    simp only [aO.ok] at ht
    split at ht
    · rename_i k' hu
      simp only [hu, Cell.okWide] at hval
      cases v <;> simp_all [Cell.ok, Value.cells, aO.cells, aO.value]
    · cases ht
  | str =>
    simp only [aO.ok] at ht
    split at ht
    · rename_i hu
      simp only [hu, Cell.okWide] at hval
      cases v <;> simp_all [Cell.ok, Value.cells, aO.cells, aO.value]
    · cases ht
  | slice e n =>
    simp only [aO.ok] at ht
    split at ht
    · rename_i k' hu
      simp only [hu, Cell.okWide] at hval
      cases v <;> simp_all [Cell.ok, Value.cells, aO.cells, aO.value]
    · cases ht
  | agg r =>
    simp only [aO.ok] at ht
    split at ht
    · rename_i fs hu
      simp only [hu] at hval
      obtain ⟨cs, rfl, _⟩ := hval
      show Value.agg cs = Value.agg ⟨r.cells x⟩
      rw [<- show cs.toList = r.cells x from hc]
    · cases ht
  | arr k e n =>
    simp only [aO.ok] at ht
    split at ht
    · rename_i k' e' hu
      simp only [hu] at hval
      obtain ⟨cs, rfl, _⟩ := hval
      show Value.agg cs = Value.agg ⟨(aO.arr k e n).cells x⟩
      rw [<- show cs.toList = (aO.arr k e n).cells x from hc]
    · cases ht
  | nil => simp [aO.ok] at ht
  | cons d n r => simp [aO.ok] at ht
end
theorem AQ {w w' : World} {b i : Nat} (hf : ∀ S, b_ w w' S) (hb : b < w.heap.size) : w'.cell? ⟨b, i, none⟩ = w.cell? ⟨b, i, none⟩ := by
  have := (hf fun _ => False).same b hb (by simp)
  simp [World.cell?, this]
theorem oN.fr {α : Type} {w w' : World} {s : ah} {n : Nat} {f : α -> List Value} {xs : List α} (h : oN w s n f xs) (hf : ∀ S, b_ w w' S) : oN w' s n f xs := by
  obtain ⟨h1, h2, h3, h4⟩ := h
  refine ⟨h1, h2, h3, fun hne => ?_⟩
  obtain ⟨b, o, ha, hb, hc⟩ := h4 hne
  exact ⟨b, o, ha, Nat.lt_of_lt_of_le hb (hf fun _ => False).size, fun i x hi => ⟨(hc i x hi).1, fun j v hj => by rw [AQ hf hb]; exact (hc i x hi).2 j v hj⟩⟩
theorem aO.In.fr {w w' : World} (hf : ∀ S, b_ w w' S) : ∀ (d : aO) (x : d.T), d.In w x -> d.In w' x := by
  intro d
  induction d with
  | bool => exact fun _ h => h
  | int k => exact fun _ h => h
  | str => exact fun _ h => h
  | slice e n ih => exact fun x h => ⟨h.1.fr hf, fun y hy => ih y (h.2 y hy)⟩
  | agg r ih => exact fun x h => ih x h
  | nil => exact fun _ h => h
  | cons d n r ih1 ih2 => exact fun x h => ⟨ih1 _ h.1, ih2 _ h.2⟩
  | arr k d n ih => exact fun xs h => ⟨h.1, fun y hy => ih y (h.2 y hy)⟩
theorem BU {W w' : World} (h : ∀ S, b_ W w' S) : Go.RowKit.Below W.heap.size W w' :=
  ⟨(h fun _ => False).io.1, (h fun _ => False).io.2.1, (h fun _ => False).io.2.2, (h fun _ => False).size, fun k hk => (h fun _ => False).same k hk (by simp)⟩
end Gp
end
section
namespace Gp
open Go
def Buf (w : World) (s : ah) (vs : List Value) : Prop :=
  s.len = vs.length ∧ ((s.a = none ∧ vs = [] ∧ s.cap = 0) ∨ ∃ b pad, s.a = some ⟨b, 0, none⟩ ∧ s.cap = vs.length + pad.length ∧ Row w b (vs ++ pad))
def ah.at (s : ah) (b : Nat) : Prop := ∃ o, s.a = some ⟨b, o, none⟩
theorem Buf.cells {w : World} {s : ah} {vs : List Value} (h : Buf w s vs) : dB w s.a s.len vs := by
  obtain ⟨hl, ⟨ha, rfl, _⟩ | ⟨b, pad, ha, _, hr⟩⟩ := h
  · rw [ha]; rfl
  · rw [ha]
    refine ⟨hl.symm, fun j hj => ?_⟩
    rw [aJ, hr.cell, Nat.zero_add, List.getElem?_append_left hj]
theorem Buf.fr {w w' : World} {s : ah} {vs : List Value} {S : Nat -> Prop} (h : Buf w s vs) (hf : b_ w w' S) (hs : ∀ b, ah.at s b -> ¬ S b) : Buf w' s vs := by
  obtain ⟨hl, ⟨ha, h1, h2⟩ | ⟨b, pad, ha, hc, hr⟩⟩ := h
  · exact ⟨hl, .inl ⟨ha, h1, h2⟩⟩
  · exact ⟨hl, .inr ⟨b, pad, ha, hc, hr.fr hf (hs b ⟨0, ha⟩)⟩⟩
end Gp
end
section
namespace Gp
open Go
abbrev Ext (w w' : World) : Prop := ∀ S : Nat -> Prop, b_ w w' S
theorem Ext.refl (w : World) : Ext w w := fun S => b_.refl w S
theorem Ext.trans {w w1 w2 : World} (h : Ext w w1) (h' : Ext w1 w2) : Ext w w2 := fun S => (h S).trans (h' S) fun _ _ e => e
theorem Ext.drew (w : World) : Ext w w.drew := fun S => b_.drew w S
theorem Ext.fr {w w1 w2 : World} {S : Nat -> Prop} (h : Ext w w1) (h' : b_ w1 w2 S) : b_ w w2 S := (h S).trans h' fun _ _ e => e
theorem b_.ext {w w1 w2 : World} {S : Nat -> Prop} (h : b_ w w1 S) (h' : Ext w1 w2) : b_ w w2 S := h.trans (h' S) fun _ _ e => e
theorem b_.new {w w' : World} {S : Nat -> Prop} (h : b_ w w' S) (hs : ∀ b, b < w.heap.size -> ¬ S b) : Ext w w' := fun _ => ⟨h.size, fun b hb _ => h.same b hb (hs b hb), h.io⟩
theorem Ext.new {w w1 w2 : World} {S : Nat -> Prop} (h : Ext w w1) (h' : b_ w1 w2 S) (hs : ∀ b, b < w.heap.size -> ¬ S b) : Ext w w2 := (h.fr h').new hs
theorem Ext.size {w w' : World} (h : Ext w w') : w.heap.size <= w'.heap.size := (h fun _ => False).size
theorem Row.ext {w w' : World} {b : Nat} {l : List Value} (h : Row w b l) (hf : Ext w w') : Row w' b l := h.fr (hf fun _ => False) (by simp)
theorem Buf.ext {w w' : World} {s : ah} {vs : List Value} (h : Buf w s vs) (hf : Ext w w') : Buf w' s vs := h.fr (hf fun _ => False) (fun _ _ => by simp)
theorem b_.Bc (w : World) (b : Nat) (o : Obj) : b_ w (w.putObj b o) (· = b) :=
  ⟨by simp [World.putObj], fun c _ hn => by simp [World.putObj, Array.getElem?_setIfInBounds]; intro e; exact absurd e.symm hn, rfl, rfl, rfl⟩
theorem Ib {w : World} {T : TypeId} {l : List Value} {K : Addr -> World -> Prop} (h : ∀ b w1, Row w1 b l -> b = w.heap.size -> w1.heap.size = b + 1 -> Ext w w1 -> K ⟨b, 0, none⟩ w1) : Al w (.cells ⟨l⟩ T) K := FU h
theorem Dt {w : World} {b : Nat} {l : List Value} {vs : List Value} {K : World -> Prop} (hr : Row w b l) (hv : vs.all bM = true) (hl : vs.length = l.length)
    (h : ∀ w1, Row w1 b vs -> (∀ S : Nat -> Prop, S b -> b_ w w1 S) -> w1.heap.size = w.heap.size -> K w1) : tC vs w ⟨b, 0, none⟩ 0 K := by
  refine EI vs w l 0 0 hr (fun v h => List.all_eq_true.1 hv v h) (by omega) fun w1 r1 f1 z1 => h w1 ?_ f1 z1
  have : List.drop vs.length l = [] := by rw [hl]; simp
  simpa [this] using r1
theorem EF (w : World) (a : Addr) (i : Nat) (K : World -> Prop) : tC [] w a i K = K w := rfl
theorem block_add (a : Addr) (j : Nat) : (a.add j).block = a.block := by unfold Addr.add; split <;> rfl
theorem cell_lt {w : World} {a : Addr} {v : Value} (h : w.cell? a = some v) : a.block < w.heap.size := by
  unfold World.cell? at h
  cases hh : w.heap[a.block]? with
  | none => simp [hh] at h
  | some o => exact (Array.getElem?_eq_some_iff.1 hh).1
theorem zf {w w' : World} {a : Addr} {v : Value} {S : Nat -> Prop} (h : w.cell? a = some v) (hf : b_ w w' S) (hs : ¬ S a.block) : w'.cell? a = some v := by
  have := hf.same a.block (cell_lt h) hs
  rw [<- h]
  simp only [World.cell?, this]
theorem b_.aS (W : World) (l : Nat) (st : LoopState) (p : Option Code) : b_ W (Gp.aS W l st p) (· = l) :=
  ⟨by simp [Gp.aS], fun b _ hn => by simp [Gp.aS, Array.getElem?_modify]; omega, rfl, rfl, rfl⟩
theorem b_.dX (W : World) (l : Nat) : b_ W (Gp.dX W l) (· = l) :=
  ⟨by simp [Gp.dX], fun b _ hn => by simp [Gp.dX, Array.getElem?_modify]; omega, rfl, rfl, rfl⟩
end Gp
end
section
namespace Gp
open Go
def bytesV (l : List UInt8) : List Value := l.map fun b => .int .u8 b.toNat
theorem bY (l : List UInt8) : (bytesV l).length = l.length := by simp [bytesV]
def uQ (w : World) (s : ah) (l : List UInt8) : Prop := s.len = l.length ∧ dB w s.a s.len (bytesV l) ∧ s.len <= s.cap
theorem uQ.nil {w : World} : uQ w ⟨none, 0, 0⟩ [] := ⟨rfl, rfl, Nat.le_refl _⟩
theorem uQ.at_ {w : World} {s : ah} {l : List UInt8} (h : uQ w s l) {i : Nat} {b : UInt8} (hi : l[i]? = some b) : ∃ a, s.a = some a ∧ w.cell? (a.add i) = some (.int .u8 b.toNat) := by
  have hlt := (List.getElem?_eq_some_iff.1 hi).1
  have hc := h.2.1
  cases hsa : s.a with
  | none =>
    rw [hsa] at hc
    have : (bytesV l).length = 0 := by rw [show bytesV l = [] from hc]; rfl
    rw [bY] at this; omega
  | some a =>
    rw [hsa] at hc
    refine ⟨a, rfl, ?_⟩
    rw [hc.2 i (by rw [bY]; exact hlt)]
    simp [bytesV, hi]
theorem uQ.empty {w : World} {s : ah} {l : List UInt8} (h : uQ w s l) (ha : s.a = .none) : l = [] := by
  have := h.2.1
  rw [ha] at this
  have h2 : bytesV l = [] := this
  simpa [bytesV] using h2
theorem uQ.fr {w w' : World} {s : ah} {l : List UInt8} {S : Nat -> Prop} (h : uQ w s l) (hf : b_ w w' S) (hs : ∀ a, s.a = some a -> 0 < l.length -> ¬ S a.block) : uQ w' s l := by
  refine ⟨h.1, ?_, h.2.2⟩
  have hc := h.2.1
  cases hsa : s.a with
  | none => rw [hsa] at hc; exact hc
  | some a =>
    rw [hsa] at hc
    refine ⟨hc.1, fun j hj => ?_⟩
    have := hc.2 j hj
    rw [List.getElem?_eq_getElem hj] at this ⊢
    exact zf this hf (by rw [block_add]; exact hs a hsa (by rw [bY] at hj; omega))
theorem uQ.lt {w : World} {s : ah} {l : List UInt8} (h : uQ w s l) {a : Addr} (ha : s.a = some a) (hl : 0 < l.length) : a.block < w.heap.size := by
  obtain ⟨a', h1, h2⟩ := h.at_ (List.getElem?_eq_getElem hl)
  rw [ha] at h1; cases h1
  have := cell_lt h2
  rwa [block_add] at this
theorem uQ.ext {w w' : World} {s : ah} {l : List UInt8} (h : uQ w s l) (hf : Ext w w') : uQ w' s l := h.fr (hf fun _ => False) (by simp)
theorem rM (a : Addr) (i j : Nat) : (a.add i).add j = a.add (i + j) := by
  unfold Addr.add
  by_cases h0 : i = 0 <;> by_cases h1 : j = 0 <;> simp [h0, h1, Nat.add_assoc]
theorem uQ.cut {w : World} {s : ah} {l : List UInt8} {lo hi : Nat} (h : uQ w s l) (h1 : lo <= hi) (h2 : hi <= l.length) (c : Nat) (hc' : hi <= c) (m : Nat) (hm : m = lo -> s.a = .none ∨ lo = hi ∨ lo = 0) :
    uQ w ⟨jy s.a m lo 1, hi - lo, c - lo⟩ ((l.take hi).drop lo) := by
  refine ⟨by simp; omega, ?_, by simp only; omega⟩
  have hc := h.2.1
  cases hsa : s.a with
  | none =>
    have : l = [] := h.empty hsa
    subst this
    simp only [jy]
    split <;> simp [dB, bytesV]
  | some a =>
    rw [hsa] at hc
    by_cases hml : m = lo
    · rcases hm hml with hx | hx | hx
      · rw [hsa] at hx; cases hx
      · subst hx
        simp only [jy, hml, if_true, Nat.sub_self]
        have : List.drop lo (List.take lo l) = [] := by simp
        rw [this]
        exact ⟨rfl, fun j hj => by simp [bytesV] at hj⟩
      · subst hx
        simp only [jy, hml, if_true, Nat.sub_zero, List.drop_zero]
        refine ⟨by simp [bytesV]; omega, fun j hj => ?_⟩
        simp only [bY, List.length_take] at hj
        rw [hc.2 j (by rw [bY]; omega)]
        simp only [bytesV, List.getElem?_map, List.getElem?_take]
        rw [if_pos (by omega)]
    · simp only [jy, hml, if_false, Option.map_some]
      refine ⟨by simp only [bY, List.length_drop, List.length_take]; omega, fun j hj => ?_⟩
      simp only [bY, List.length_take, List.length_drop] at hj
      rw [rM, Nat.mul_one, hc.2 (lo + j) (by rw [bY]; omega)]
      simp only [bytesV, List.getElem?_map, List.getElem?_take, List.getElem?_drop]
      rw [if_pos (by omega)]
theorem uQ.row {w : World} {b : Nat} {l : List UInt8} (h : Row w b (bytesV l)) : Buf w ⟨some ⟨b, 0, none⟩, l.length, l.length⟩ (bytesV l) :=
  ⟨by simp [bytesV], .inr ⟨b, [], rfl, by simp [bytesV], by simpa using h⟩⟩
theorem Buf.nil {w : World} : Buf w ⟨none, 0, 0⟩ [] := ⟨rfl, .inl ⟨rfl, rfl, rfl⟩⟩
theorem Buf.set {w : World} {s : ah} {vs : List Value} (h : Buf w s vs) {i : Nat} (hi : i < vs.length) : ∃ b, s.a = some ⟨b, 0, none⟩ ∧ ∀ (v : Value) (K : World -> Prop), bM v = true ->
    (∀ w', Buf w' s (vs.set i v) -> b_ w w' (ah.at s) -> w'.heap.size = w.heap.size -> K w') -> St w ⟨b, i, none⟩ v K := by
  obtain ⟨hl, ⟨_, h1, _⟩ | ⟨b, pad, ha, hc, hr⟩⟩ := h
  · rw [h1] at hi; simp at hi
  · refine ⟨b, ha, fun v K hv hK => BJ hr hv (by simp; omega) fun w1 r1 f1 z1 => hK w1 ⟨by simp [hl], .inr ⟨b, pad, ha, by simp [hc], ?_⟩⟩ (f1 _ ⟨0, ha⟩) z1⟩
    rw [List.set_append_left _ _ hi] at r1
    exact r1
theorem Buf.lt {w : World} {s : ah} {vs : List Value} (h : Buf w s vs) {b : Nat} (hb : ah.at s b) : b < w.heap.size := by
  obtain ⟨o, hb⟩ := hb
  obtain ⟨_, ⟨ha, _, _⟩ | ⟨c, pad, ha, _, hr⟩⟩ := h
  · rw [ha] at hb; cases hb
  · rw [ha] at hb; cases hb; exact hr.lt
end Gp
end
section
namespace Gp
open Go
structure mg {α : Type} (n : Nat) (f : α -> List Value) (w : World) (s : ah) (xs : List α) : Prop where
  len : s.len = xs.length
  mem : (s.a = none ∧ xs = [] ∧ s.cap = 0) ∨ ∃ b pad, s.a = some ⟨b, 0, none⟩ ∧ s.cap * n = xs.length * n + pad.length ∧ Row w b (xs.flatMap f ++ pad)
structure yN {α : Type} (n : Nat) (f : α -> List Value) (w : World) (s : ah) (xs : List α) : Prop where
  len : s.len = xs.length
  cells : dB w s.a (s.len * n) (xs.flatMap f)
  cap : s.len <= s.cap
section
variable {α : Type} {n : Nat} {f : α -> List Value} {w w' : World} {s : ah} {xs : List α}
theorem mg.nil : mg n f w ⟨none, 0, 0⟩ [] := ⟨rfl, .inl ⟨rfl, rfl, rfl⟩⟩
theorem mg.lt (h : mg n f w s xs) {b : Nat} (hb : ah.at s b) : b < w.heap.size := by
  obtain ⟨o, hb⟩ := hb
  obtain ⟨_, ⟨ha, _, _⟩ | ⟨c, pad, ha, _, hr⟩⟩ := h
  · rw [ha] at hb; cases hb
  · rw [ha] at hb; cases hb; exact hr.lt
theorem mg.fr {S : Nat -> Prop} (h : mg n f w s xs) (hf : b_ w w' S) (hs : ∀ b, ah.at s b -> ¬ S b) : mg n f w' s xs := by
  obtain ⟨hl, ⟨ha, h1, h2⟩ | ⟨b, pad, ha, hc, hr⟩⟩ := h
  · exact ⟨hl, .inl ⟨ha, h1, h2⟩⟩
  · exact ⟨hl, .inr ⟨b, pad, ha, hc, hr.fr hf (hs b ⟨0, ha⟩)⟩⟩
theorem mg.ext (h : mg n f w s xs) (hf : Ext w w') : mg n f w' s xs := h.fr (hf fun _ => False) (fun _ _ => by simp)
theorem mg.sl (hn : ∀ x, (f x).length = n) (h0 : 0 < n) (h : mg n f w s xs) : yN n f w s xs := by
  obtain ⟨hl, ⟨ha, rfl, hc⟩ | ⟨b, pad, ha, hc, hr⟩⟩ := h
  · exact ⟨hl, by rw [ha]; rfl, by rw [hl]; simp⟩
  · refine ⟨hl, ?_, ?_⟩
    · rw [ha]
      refine ⟨by rw [lX f n hn, hl], fun j hj => ?_⟩
      rw [aJ, hr.cell, Nat.zero_add, List.getElem?_append_left hj]
    · rw [hl]
      exact Nat.le_of_mul_le_mul_right (by omega : xs.length * n <= s.cap * n) h0
theorem yN.nil : yN n f w ⟨none, 0, 0⟩ [] := ⟨rfl, rfl, Nat.le_refl _⟩
theorem yN.at_ (hn : ∀ x, (f x).length = n) (h0 : 0 < n) (h : yN n f w s xs) {i : Nat} {x : α} (hi : xs[i]? = some x) : ∃ a, s.a = some a ∧ ∀ j v, (f x)[j]? = some v -> w.cell? (a.add (i * n + j)) = some v := by
  have hlt := (List.getElem?_eq_some_iff.1 hi).1
  have hc := h.cells
  have hfl := lX f n hn xs
  have hm : (i + 1) * n <= xs.length * n := Nat.mul_le_mul_right _ hlt
  rw [Nat.add_mul] at hm
  cases hsa : s.a with
  | none =>
    rw [hsa] at hc
    have h0 : xs.flatMap f = [] := hc
    rw [h0] at hfl
    simp only [List.length_nil] at hfl
    omega
  | some a =>
    rw [hsa] at hc
    refine ⟨a, rfl, fun j v hj => ?_⟩
    have hjn : j < n := by have := (List.getElem?_eq_some_iff.1 hj).1; rw [hn] at this; exact this
    rw [hc.2 _ (by omega), flat_get f n hn xs i j hjn, hi]
    exact hj
theorem yN.fr {S : Nat -> Prop} (h : yN n f w s xs) (hf : b_ w w' S) (hs : ∀ a, s.a = some a -> 0 < xs.length -> ¬ S a.block) : yN n f w' s xs := by
  refine ⟨h.len, ?_, h.cap⟩
  have hc := h.cells
  cases hsa : s.a with
  | none => rw [hsa] at hc; exact hc
  | some a =>
    rw [hsa] at hc
    refine ⟨hc.1, fun j hj => ?_⟩
    have := hc.2 j hj
    rw [List.getElem?_eq_getElem hj] at this ⊢
    refine zf this hf (by
      rw [block_add]
      refine hs a hsa ?_
      cases xs with
      | nil => simp at hj
      | cons => simp)
theorem yN.ext (h : yN n f w s xs) (hf : Ext w w') : yN n f w' s xs := h.fr (hf fun _ => False) (by simp)
theorem mg.row {b : Nat} (h : Row w b (xs.flatMap f)) : mg n f w ⟨some ⟨b, 0, none⟩, xs.length, xs.length⟩ xs :=
  ⟨rfl, .inr ⟨b, [], rfl, by simp, by simpa using h⟩⟩
theorem yN.cut (hn : ∀ x, (f x).length = n) (h : yN n f w s xs) {lo hi : Nat} (h1 : lo <= hi) (h2 : hi <= xs.length) (m : Nat) (hm : m = lo -> lo = hi) :
    yN n f w ⟨jy s.a m lo n, hi - lo, s.cap - lo⟩ ((xs.take hi).drop lo) := by
  have hcap := h.cap
  have hlen := h.len
  refine ⟨by simp; omega, ?_, by simp only; omega⟩
  have hc := h.cells
  cases hsa : s.a with
  | none =>
    rw [hsa] at hc
    have h0 : xs.flatMap f = [] := hc
    have : ((xs.take hi).drop lo).flatMap f = [] := by
      rw [List.flatMap_eq_nil_iff] at h0 ⊢
      exact fun x hx => h0 x (List.mem_of_mem_take (List.mem_of_mem_drop hx))
    simp only [jy]
    split <;> simpa [dB] using this
  | some a =>
    rw [hsa] at hc
    by_cases hml : m = lo
    · have := hm hml
      subst this
      simp only [jy, hml, if_true, Nat.sub_self, Nat.zero_mul]
      have : List.drop lo (List.take lo xs) = [] := by simp
      rw [this]
      exact ⟨rfl, fun j hj => by simp at hj⟩
    · simp only [jy, hml, if_false, Option.map_some]
      have hfl : (((xs.take hi).drop lo).flatMap f).length = (hi - lo) * n := by
        rw [lX f n hn]; simp; congr 1; omega
      refine ⟨hfl, fun j hj => ?_⟩
      rw [hfl] at hj
      have e : lo * n + j < (xs.flatMap f).length := by
        rw [lX f n hn]
        have h3 : hi * n <= xs.length * n := Nat.mul_le_mul_right _ h2
        have h4 : (hi - lo) * n = hi * n - lo * n := Nat.sub_mul _ _ _
        have h5 : lo * n <= hi * n := Nat.mul_le_mul_right _ h1
        omega
      have ea : (a.add (lo * n)).add j = a.add (lo * n + j) := rM _ _ _
      rw [ea, hc.2 _ e]
      have hn0 : 0 < n := by
        cases n with
        | zero => simp at hj
        | succ n => omega
      have hj' : j = j / n * n + j % n := by rw [Nat.mul_comm]; exact (Nat.div_add_mod j n).symm
      have hjm := Nat.mod_lt j hn0
      have hjd : j / n < hi - lo := (Nat.div_lt_iff_lt_mul hn0).2 hj
      rw [hj', <- Nat.add_assoc, <- Nat.add_mul, flat_get f n hn _ _ _ hjm, flat_get f n hn _ _ _ hjm]
      rw [List.getElem?_drop, List.getElem?_take, if_pos (by omega)]
end
end Gp
end
section
namespace Gp
open Go
def qH {α : Type} (enc : α -> Value) (w : World) (r : Nat) (xs : List α) : Prop :=
  ∃ es clock, w.heap[r]? = some (.map es clock) ∧ es.toList.map (fun e => (e.key, e.val)) = xs.map fun x => (enc x, .bool true)
section
variable {α : Type} {enc : α -> Value} {w w' : World} {r : Nat} {xs : List α} {P : Program} {kt : TypeId}
theorem qH.fr {S : Nat -> Prop} (h : qH enc w r xs) (hf : b_ w w' S) (hs : ¬ S r) : qH enc w' r xs := by
  obtain ⟨es, c, h1, h2⟩ := h
  exact ⟨es, c, by rw [hf.same r (Array.getElem?_eq_some_iff.1 h1).1 hs]; exact h1, h2⟩
theorem qH.ext (h : qH enc w r xs) (hf : Ext w w') : qH enc w' r xs := h.fr (hf fun _ => False) (by simp)
theorem qH.lt (h : qH enc w r xs) : r < w.heap.size := by
  obtain ⟨es, c, h1, h2⟩ := h
  exact (Array.getElem?_eq_some_iff.1 h1).1
theorem qH.new (w : World) (enc : α -> Value) : qH enc (w.alloc (.map #[] 0)) w.heap.size [] := ⟨#[], 0, World.alloc_heap_new w _, rfl⟩
end
end Gp
end
section
namespace Gp
open Go
def oD {α β : Type} (enc : α -> Value) (ev : β -> Value) (w : World) (r : Nat) (l : List (α × β)) : Prop :=
  ∃ es clock, w.heap[r]? = some (.map es clock) ∧ es.toList.map (fun e => (e.key, e.val)) = (l.map fun x => (enc x.1, ev x.2)) ∧ (es.toList.map (·.born)).Nodup ∧ ∀ e ∈ es.toList, e.born < clock
section
variable {α β : Type} {enc : α -> Value} {ev : β -> Value} {w w' : World} {r : Nat} {l : List (α × β)} {P : Program} {kt : TypeId}
theorem oD.fr {S : Nat -> Prop} (h : oD enc ev w r l) (hf : b_ w w' S) (hs : ¬ S r) : oD enc ev w' r l := by
  obtain ⟨es, c, h1, h2, h3⟩ := h
  exact ⟨es, c, by rw [hf.same r (Array.getElem?_eq_some_iff.1 h1).1 hs]; exact h1, h2, h3⟩
theorem oD.ext (h : oD enc ev w r l) (hf : Ext w w') : oD enc ev w' r l := h.fr (hf fun _ => False) (by simp)
theorem oD.lt (h : oD enc ev w r l) : r < w.heap.size := by
  obtain ⟨es, c, h1, h2⟩ := h
  exact (Array.getElem?_eq_some_iff.1 h1).1
theorem oD.new (w : World) (enc : α -> Value) (ev : β -> Value) : oD enc ev (w.alloc (.map #[] 0)) w.heap.size [] := ⟨#[], 0, World.alloc_heap_new w _, rfl, by simp, by simp⟩
end
end Gp
end
section
namespace Gp
open Go
def DZ {α β : Type} (enc : α -> Value) (ev : β -> Value) (w : World) (q r : Nat) (l todo : List (α × β)) : Prop :=
  ∃ seen es clock, w.heap[q]? = some (.mapIter (some r) clock seen clock) ∧ w.heap[r]? = some (.map es clock) ∧
    es.toList.map (fun e => (e.key, e.val)) = (l.map fun x => (enc x.1, ev x.2)) ∧ (es.toList.map (·.born)).Nodup ∧ (∀ e ∈ es.toList, e.born < clock) ∧
    (leftOf es seen).toList.map (fun e => (e.key, e.val)) = todo.map fun x => (enc x.1, ev x.2)
section
variable {α β : Type} {enc : α -> Value} {ev : β -> Value} {w w' : World} {q r : Nat} {l todo : List (α × β)} {P : Program} {kt : TypeId}
theorem DZ.map (h : DZ enc ev w q r l todo) : oD enc ev w r l := by
  obtain ⟨seen, es, c, _, h2, h3, h4, h5, _⟩ := h
  exact ⟨es, c, h2, h3, h4, h5⟩
theorem DZ.fr {S : Nat -> Prop} (h : DZ enc ev w q r l todo) (hf : b_ w w' S) (h1 : ¬ S q) (h2 : ¬ S r) : DZ enc ev w' q r l todo := by
  obtain ⟨seen, es, c, g1, g2, g⟩ := h
  exact ⟨seen, es, c, by rw [hf.same q (Array.getElem?_eq_some_iff.1 g1).1 h1]; exact g1, by rw [hf.same r (Array.getElem?_eq_some_iff.1 g2).1 h2]; exact g2, g⟩
theorem DZ.ext (h : DZ enc ev w q r l todo) (hf : Ext w w') : DZ enc ev w' q r l todo := h.fr (hf fun _ => False) (by simp) (by simp)
end
end Gp
namespace Gp
open Go
def FD (w : World) (q r : Nat) : Nat :=
  match w.heap[q]?, w.heap[r]? with
  | some (.mapIter _ _ seen _), some (.map es _) => (leftOf es seen).size
  | _, _ => 0
theorem DZ.left {α β : Type} {enc : α -> Value} {ev : β -> Value} {w : World} {q r : Nat} {l todo : List (α × β)} (h : DZ enc ev w q r l todo) : FD w q r = todo.length := by
  obtain ⟨seen, es, c, g1, g2, _, _, _, g6⟩ := h
  unfold FD
  rw [g1, g2]
  have := congrArg List.length g6
  simpa using this
end Gp
end
section
namespace Gp
open Go
def fill : Code -> iZ -> iZ
  | .seq a b, an => match an with
    | .leaf => .seq (fill a .leaf) (fill b .leaf)
    | .seq x y => .seq (fill a x) (fill b y)
    | .join st x y => .join st (fill a x) (fill b y)
    | x => x
  | .cond _ a b, an => match an with
    | .leaf => .cond (fill a .leaf) (fill b .leaf)
    | .cond x y => .cond (fill a x) (fill b y)
    | x => x
  | .block _ a, an => match an with
    | .leaf => .blk (fill a .leaf)
    | .blk x => .blk (fill a x)
    | x => x
  | .loop a, an => match an with
    | .loop st x => .loop st (fill a x)
    | x => x
  | .scope a, an => fill a an
  | .rangeFunc _ _ a b, an => match an with
    | .rng ks x y => .rng ks (fill a x) (fill b y)
    | x => x
  | _, an => an
def vC : (ks : List Kind) -> qO ks -> qO ks -> Prop
  | [], K, K' => ∀ w, K w -> K' w
  | k :: ks, K, K' => ∀ x : k.T, vC ks (K x) (K' x)
theorem qw {rest : List Kind} : ∀ (ks : List Kind) {K K' : qO (ks ++ rest)} {φ ψ : List Value -> qO rest -> Prop}, vC (ks ++ rest) K K' ->
    (∀ vs c c', vC rest c c' -> φ vs c -> ψ vs c') -> wP ks rest K φ -> wP ks rest K' ψ
  | [], _, _, _, _, h, hp, hk => hp _ _ _ h hk
  | _ :: ks, _, _, _, _, h, hp, ⟨x, hk⟩ => ⟨x, qw ks (h x) (fun _ _ _ hc hh => hp _ _ _ hc hh) hk⟩
theorem mY : ∀ (sh : List Shape) {K K' : qO (flat sh)} {φ : List Value -> Prop} {w : World}, vC (flat sh) K K' -> wQ sh K φ w -> wQ sh K' φ w
  | [], _, _, _, _, h, hk => ⟨hk.1, h _ hk.2⟩
  | .one _ :: sh, _, _, _, _, h, ⟨x, hk⟩ => ⟨x, mY sh (h x) hk⟩
  | .agg ks :: sh, _, _, _, _, h, hk => qw ks h (fun _ _ _ hc hh => mY sh hc hh) hk
def aT (P : Program) (f : FuncId) (args : List Value) (sh : List Shape) (w : World) (K : qO (flat sh)) : Prop :=
  Calls P f ⟨args⟩ w fun e w' => wQ sh K (fun us => e = .returned (aY us)) w'
theorem aT.mono {P : Program} {f : FuncId} {args : List Value} {sh : List Shape} {w : World} {K K' : qO (flat sh)} (h : aT P f args sh w K) (hk : vC (flat sh) K K') : aT P f args sh w K' :=
  Calls.mono h fun _ _ hh => mY sh hk hh
def Ic (P : Program) (fn : Func) (sh : List Shape) (an : iZ) (args : List Value) (w : World) (K : qO (flat sh)) : Prop :=
  match fn.body with
  | some c => cond (Nat.ble args.length fn.ntmps) (den P fn.ntmps c none (fill c an) (jf 0 args) [] w (IJ P fn.results.toList sh K)) False
  | none => False
@[reducible] def tu (A B : Prop) : Prop := B -> A
theorem okF {P : Program} (hP : jA P) {f : FuncId} {fn : Func} (hf : P.funcs[f]? = some fn) {args : List Value} {sh : List Shape} {w : World} {K : qO (flat sh)} {S : Prop} (an : iZ)
    (e : Ic P fn sh an args w K = S) : tu (aT P f args sh w K) S := by
  intro h
  rw [<- e] at h
  unfold Ic at h
  cases hb : fn.body with
  | none => rw [hb] at h; exact h.elim
  | some c =>
    rw [hb] at h
    dsimp only at h
    cases hl : Nat.ble args.length fn.ntmps with
    | false => rw [hl] at h; exact h.elim
    | true =>
      rw [hl] at h
      exact DX hP hf hb rfl (rs := fn.results.toList) rfl sh K (fill c an) args hl w h
@[reducible] def Pt (p : Option Addr) (K : Addr -> Prop) : Prop := ∃ a, p = some a ∧ K a
def GX : List Value -> World -> Addr -> Nat -> Prop -> Prop
  | [], _, _, _, R => R
  | v :: vs, w, a, i, R => w.cell? (a.add i) = some v ∧ GX vs w a (i + 1) R
end Gp
end
section
namespace Gp
open Go
theorem DT (v : Value) (vs : List Value) (w : World) (a : Addr) (i : Nat) (R : Prop) : GX (v :: vs) w a i R ↔ (w.cell? (a.add i) = some v ∧ GX vs w a (i + 1) R) := Iff.rfl
theorem Fg (w : World) (a : Addr) (i : Nat) (R : Prop) : GX [] w a i R ↔ R := Iff.rfl
theorem sx : (∀ (w : World) (a : Addr) (i : Nat) (K : World -> Prop), tC [] w a i K = K w) ∧ (∀ (a : Addr), (some a).isNone = false) ∧ ((none : Option Addr).isNone = true) ∧
    (∀ (a b : Prop), cond false a b = b) ∧ (∀ (a b : Prop), cond true a b = a) ∧ (∀ (a : Addr) (P : Addr -> Prop), (∃ x, some a = some x ∧ P x) ↔ P a) ∧
    (∀ (k : Kind) (w : World) (a : Addr) (K : k.T -> Prop), Ld k w a K ↔ Jk k (w.cell? a) K) ∧
    (∀ (a : Value) (l : List Value), (a :: l)[0]? = some a) ∧ (∀ (a : Value) (l : List Value) (i : Nat), (a :: l)[i + 1]? = l[i]?) ∧
    (∀ (k : Kind) (v : Value) (K : k.T -> Prop), Jk k (some v) K = k.dec v K) ∧ (∀ (a : Option Addr) (l c : Nat) (K : ah -> Prop), Kind.dec .slice (.slice a l c) K = K ⟨a, l, c⟩) ∧
    (∀ (k : IntKind) (n : Int) (K : Int -> Prop), Kind.dec (.int k) (.int k n) K = K n) ∧ (∀ (b : Bool) (K : Bool -> Prop), Kind.dec .bool (.bool b) K = K b) ∧
    (∀ (a : Option Addr) (K : Option Addr -> Prop), Kind.dec .ptr (.pointer a) K = K a) ∧ (∀ (b : ByteArray) (K : ByteArray -> Prop), Kind.dec .str (.string b) K = K b) ∧
    (∀ (r : Option Nat) (K : Option Nat -> Prop), Kind.dec .map (.map r) K = K r) ∧ (∀ (v : Value) (K : Value -> Prop), Kind.dec .any v K = K v) ∧
    (∀ (a : Addr) (l c size : Nat) (i : Int) (K : Addr -> Prop), Es ⟨some a, l, c⟩ size i K ↔ (0 <= i ∧ i < (l : Int) ∧ K (a.add (i.toNat * size)))) ∧
    (∀ (b o n : Nat), (⟨b, o, none⟩ : Addr).add n = ⟨b, o + n, none⟩) ∧ (∀ n : Nat, 0 + n = n) ∧ (∀ n : Nat, n + 0 = n) ∧
    (∀ (v : Value) (vs : List Value) (w : World) (a : Addr) (i : Nat) (R : Prop), GX (v :: vs) w a i R ↔ (w.cell? (a.add i) = some v ∧ GX vs w a (i + 1) R)) ∧ (∀ (w : World) (a : Addr) (i : Nat) (R : Prop), GX [] w a i R ↔ R) :=
  ⟨EF, fun _ => rfl, rfl, fun _ _ => rfl, fun _ _ => rfl, EW, Ip, fun _ _ => rfl, fun _ _ _ => rfl, DK, Aa, yY, CZ, ES, Ei, EO, zu, zF, aJ, Nat.zero_add, fun _ => rfl, DT, Fg⟩
end Gp
end
section
namespace Gp.Rn
open Go Gp
noncomputable section
inductive AV where
  | int (k : IntKind) (n : Int)
  | bool (b : Bool)
  | str (s : ByteArray)
  | ptr0
  | ptr (i o : Nat)
  | sl0
  | sl (i o len cap : Nat)
  | slo (i o len d : Nat)
  | slE (i : Nat)
  | map0
  | map (r : Nat)
  | fn (f : FuncId) (first cap : List AV)
  | yld (l : Nat)
  | agg (vs : List AV)
  | aY (vs : List AV)
  | nilF
  | nilI
  | ifc (t : TypeId) (v : AV)
inductive GL where
  | no
  | ret
  | ex (id : Nat)
inductive AB where
  | row (cs : List AV) (size : Nat) (opn : Bool)
  | map (es : List (AV × AV × Nat)) (clock : Nat)
  | iter (m : Option Nat) (since : Nat) (seen : List Nat) (c : Nat)
  | loop (st : LoopState) (p : GL)
  | mark
  | dead
inductive Tr where
  | lf
  | nd (v : Option AB) (l r : Tr)
def Tr.get : Tr -> Nat -> Option AB
  | .lf, _ => none
  | .nd v l r, n => match n with
    | 0 => v
    | m + 1 => cond (Nat.beq (m % 2) 0) (l.get (m / 2)) (r.get (m / 2))
def Tr.uw : Nat -> Tr -> Nat -> AB -> (Tr -> Bool) -> Bool
  | 0, _, _, _, _ => false
  | f + 1, t, n, v, k => match t with
    | .lf => match n with
      | 0 => k (.nd (some v) .lf .lf)
      | m + 1 => cond (Nat.beq (m % 2) 0) (uw f .lf (m / 2) v fun l => k (.nd none l .lf)) (uw f .lf (m / 2) v fun r => k (.nd none .lf r))
    | .nd x l r => match n with
      | 0 => k (.nd (some v) l r)
      | m + 1 => cond (Nat.beq (m % 2) 0) (uw f l (m / 2) v fun l' => k (.nd x l' r)) (uw f r (m / 2) v fun r' => k (.nd x l r'))
structure St where
  h : Tr
  n : Nat
abbrev AE := List (Nat × AV)
def AE.get (e : AE) (t : Nat) : Option AV := List.rec (motive := fun _ => Option AV) none (fun p _ ih => Bool.rec ih (some p.2) (Nat.beq p.1 t)) e
def AE.put (e : AE) (d : Option Nat) (v : AV) : AE :=
  match d with
  | some s => (s, v) :: e
  | none => e
def AE.without (ws : List Nat) : AE -> AE
  | [] => []
  | (s, v) :: r => cond (dV s ws) (AE.without ws r) ((s, v) :: AE.without ws r)
def fN (n : Nat) (k : Nat -> Bool) : Bool := match n with
  | 0 => k 0
  | m + 1 => k (Nat.succ m)
def fI (n : Int) (k : Int -> Bool) : Bool := match n with
  | .ofNat a => fN a fun a => k (.ofNat a)
  | .negSucc a => fN a fun a => k (.negSucc a)
def fB (b : Bool) (k : Bool -> Bool) : Bool := match b with
  | true => k true
  | false => k false
def vJ : Value -> Option AV
  | .int k n => some (.int k n)
  | .bool b => some (.bool b)
  | .string s => some (.str s)
  | .pointer none => some .ptr0
  | .slice none 0 0 => some .sl0
  | .map none => some .map0
  | .nilFunc => some .nilF
  | .nilIface => some .nilI
  | _ => none
def gZ : List Value -> Option (List AV)
  | [] => some []
  | v :: r => match vJ v, gZ r with
    | some a, some l => some (a :: l)
    | _, _ => none
def jH : Value -> Option AV
  | .agg cs => match gZ cs.toList with
    | some l => some (.agg l)
    | none => none
  | .tuple vs => match vs.toList with
    | [] => some (.aY [])
    | _ => none
  | v => vJ v
def one : AV -> Bool
  | .agg _ => false
  | .aY _ => false
  | _ => true
def Ea : Kind -> AV -> Bool
  | .int k, .int k' _ => iR k k'
  | .bool, .bool _ => true
  | .str, .str _ => true
  | .ptr, .ptr0 => true
  | .ptr, .ptr _ _ => true
  | .slice, .sl0 => true
  | .slice, .sl _ _ _ _ => true
  | .slice, .slo _ _ _ _ => true
  | .slice, .slE _ => true
  | .map, .map0 => true
  | .map, .map _ => true
  | .any, _ => true
  | _, _ => false
def qj : List Kind -> List AV -> Bool
  | [], [] => true
  | k :: ks, v :: vs => Ea k v && qj ks vs
  | _, _ => false
def F8 : Shape -> AV -> Bool
  | .one k, v => Ea k v
  | .agg ks, .agg vs => qj ks vs
  | _, _ => false
def lY : List Shape -> List AV -> Bool
  | [], [] => true
  | k :: ks, v :: vs => F8 k v && lY ks vs
  | _, _ => false
def Fv (e : AE) : Operand -> Option AV
  | .tmp t => e.get t
  | .const v => jH v
  | .global _ => none
  | .func f => some (.fn f [] [])
def evs (e : AE) : List Operand -> Option (List AV)
  | [] => some []
  | x :: r => match Fv e x, evs e r with
    | some a, some l => some (a :: l)
    | _, _ => none
def mV : List AV -> Option (List Value)
  | [] => some []
  | v :: r => match (match v with
    | .int k n => some (Value.int k n)
    | .bool b => some (.bool b)
    | .str s => some (.string s)
    | _ => none), mV r with
    | some a, some l => some (a :: l)
    | _, _ => none
def uJ : AV -> Option Value
  | .int k n => some (.int k n)
  | .bool b => some (.bool b)
  | .str s => some (.string s)
  | .agg vs => match mV vs with
    | some l => some (.agg ⟨l⟩)
    | none => none
  | _ => none
def Jq : List UInt8 -> List UInt8 -> Bool
  | [], [] => true
  | a :: l, b :: m => cond (Nat.beq a.toNat b.toNat) (Jq l m) false
  | _, _ => false
def Jj : List UInt8 -> List UInt8 -> Bool
  | [], [] => false
  | [], _ :: _ => true
  | _ :: _, [] => false
  | a :: l, b :: m => cond (Nat.blt a.toNat b.toNat) true (cond (Nat.beq a.toNat b.toNat) (Jj l m) false)
def EY (a b : ByteArray) : Bool := Jq a.data.toList b.data.toList
def H6 (a b : ByteArray) : Bool := Jj a.data.toList b.data.toList
def uy (P : Program) : Nat -> TypeId -> Value -> Value -> Option Bool
  | 0, _, _, _ => none
  | d + 1, t, x, y => match P.underlying t, x, y with
    | some .bool, .bool a, .bool b => some (a == b)
    | some (.int _), .int k a, .int k' b => cond (iR k k') (some (a == b)) none
    | some .string, .string a, .string b => some (EY a b)
    | some (.struct fs), .agg xs, .agg ys => cond (P.stoodInHeld t) none (Ah P (uy P d) xs.toList ys.toList fs.toList)
    | some (.array n e), .agg xs, .agg ys => match P.underlying e, au P e with
      | some de, some size => zX (uy P d e) de size xs.toList ys.toList n 0
      | _, _ => none
    | _, _, _ => none
def iT (s : St) (b : AB) (k : Nat -> St -> Bool) : Bool :=
  match s.h.get s.n with
  | none => s.h.uw 64 s.n b fun h' => fN (s.n + 1) fun m => k s.n ⟨h', m⟩
  | some _ => false
def iI (s : St) (i : Nat) (b : AB) (k : St -> Bool) : Bool := s.h.uw 64 i b fun h' => k ⟨h', s.n⟩
def yP {α : Type} : Nat -> List α -> Option (List α)
  | 0, _ => some []
  | _ + 1, [] => none
  | n + 1, x :: l => match yP n l with
    | some r => some (x :: r)
    | none => none
def Dx (s : St) (i o n : Nat) : Option (List AV) :=
  match s.h.get i with
  | some (.row cs _ _) => yP n (cs.drop o)
  | _ => none
def wO : List AV -> Nat -> List AV -> (List AV -> Bool) -> Bool
  | [], _, vs, k => match vs with
    | [] => k []
    | _ => false
  | c :: cs, n, vs, k => match n with
    | m + 1 => wO cs m vs fun r => k (c :: r)
    | 0 => match vs with
      | [] => k (c :: cs)
      | v :: vs => wO cs 0 vs fun r => k (v :: r)
def iq : List AV -> Bool
  | [] => true
  | v :: r => one v && iq r
def AZ (s : St) (i o : Nat) (vs : List AV) (k : St -> Bool) : Bool :=
  cond (iq vs) (match s.h.get i with
    | some (.row cs z p) => wO cs o vs fun cs' => iI s i (.row cs' z p) k
    | _ => false) false
def IZ (s : St) (size n : Nat) : AV -> Option (List AV)
  | .sl0 => cond (Nat.beq n 0) (some []) none
  | .sl i o len _ => cond (Nat.ble n len) (Dx s i o (n * size)) none
  | .slo i o len _ => cond (Nat.ble n len) (Dx s i o (n * size)) none
  | .slE _ => cond (Nat.beq n 0) (some []) none
  | _ => none
def qx : AV -> Option Nat
  | .sl0 => some 0
  | .sl _ _ n _ => some n
  | .slo _ _ n _ => some n
  | .slE _ => some 0
  | _ => none
def wL (z : List AV) : Nat -> List AV
  | 0 => []
  | n + 1 => z ++ wL z n
def sV (size bytes zl : Nat) (x : AV) (n : Nat) (vs : List AV) (s : St) (k : AV -> St -> Bool) : Bool :=
  cond (iq vs && (Nat.beq zl size && (Nat.beq vs.length (n * size) && Nat.blt 0 size))) (match x with
    | .sl0 => match n with
      | 0 => k .sl0 s
      | _ + 1 => cond (Nat.ble (n * bytes) (2 ^ 46) && Nat.ble n (2 ^ 62)) (iT s (.row vs size true) fun j s' => k (.slo j 0 n 0) s') false
    | .sl i o len cap => fN (len + n) fun m => cond (Nat.ble m cap) (AZ s i (o + len * size) vs fun s' => k (.sl i o m cap) s')
        (cond (Nat.ble (m * bytes) (2 ^ 46) && Nat.ble m (2 ^ 62)) (match Dx s i o (len * size) with
          | some old => iT s (.row (old ++ vs) size true) fun j s' => k (.slo j 0 m 0) s'
          | none => false) false)
    | .slo i o len d => fN (len + n) fun m => match s.h.get i with
      | some (.row cs z true) => cond (Nat.beq z size && Nat.beq (d * size) o)
          (cond (Nat.ble (o + m * size) cs.length) (AZ s i (o + len * size) vs fun s' => k (.slo i o m d) s')
            (cond (Nat.beq o 0 && (Nat.beq d 0 && (Nat.beq (len * size) cs.length && (Nat.ble (m * bytes) (2 ^ 46) && Nat.ble m (2 ^ 62)))))
              (iI s i .dead fun s1 => iT s1 (.row (cs ++ vs) size true) fun j s' => k (.slo j 0 m 0) s') false)) false
      | _ => false
    | _ => false) false
end
end Gp.Rn
end
