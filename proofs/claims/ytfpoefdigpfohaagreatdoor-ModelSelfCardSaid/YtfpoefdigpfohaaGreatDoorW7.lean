import Derived.Test.YtfpoefdigpfohaaGreatDoorW6
section
namespace Gp.Rn
open Go Gp
def DR (ρ : Nm) : List Nat -> List Nat -> Prop
  | [], [] => True
  | i :: l, b :: m => (∃ x, ρ i = some x ∧ x.b = b) ∧ DR ρ l m
  | _, _ => False
theorem DR.mono {ρ ρ' : Nm} (hl : Le ρ ρ') : ∀ {l m : List Nat}, DR ρ l m -> DR ρ' l m
  | [], [], _ => trivial
  | i :: l, b :: m, h => by
    obtain ⟨⟨x, h1, h2⟩, h3⟩ := h
    exact ⟨⟨x, hl _ _ h1, h2⟩, DR.mono hl h3⟩
  | [], _ :: _, h => h.elim
  | _ :: _, [], h => h.elim
def RR (ρ : Nm) : Option Nat -> Option Nat -> Prop
  | none, none => True
  | some l, some b => ∃ x, ρ l = some x ∧ x.b = b
  | _, _ => False
theorem RR.mono {ρ ρ' : Nm} (hl : Le ρ ρ') {r r' : Option Nat} (h : RR ρ r r') : RR ρ' r r' := by
  cases r <;> cases r' <;> first | exact h | exact h.elim | skip
  obtain ⟨x, h1, h2⟩ := h
  exact ⟨x, hl _ _ h1, h2⟩
def Q9 (P : Program) (i : JL) (env : Env) (l : Nat) (x' : xu i.ks) (W : World) (Kb : Exit -> World -> Prop) : Prop :=
  den P i.nt i.assign (some l) i.x (wL i.ps (encR i.ks x') ++ env) [] W fun e env1 _ W1 => match e with
    | .normal => W1.heap[l]? = W.heap[l]? ∧ den P i.nt i.body (some l) i.y env1 [] (ak W1 l) fun e _ _ W2 => Kb e W2
    | _ => False
def YS (P : Program) (x : Loc) (i : JL) (env : Env) : Prop := ∀ (xs : xu i.ks) (W : World) (p : Option Code) (R : Bool -> World -> Prop), x.L .ready p W ->
  Q9 P i env x.b xs W (fun e W' => x.L .busy p W' ∧ ∃ j, qR e = some j ∧ R (kK e) (bM W' x.b (if kK e then .ready else .done) j)) -> rD P x.b (encR i.ks xs) W R
def GR (P : Program) (ρ : Nm) (Γ : uF) : Prop := ∀ l i, Γ.get l = some i -> ∃ x env, ρ l = some x ∧ ER ρ i.env env ∧ YS P x i env
theorem GR.mono {P : Program} {ρ ρ' : Nm} {Γ : uF} (h : GR P ρ Γ) (hl : Le ρ ρ') : GR P ρ' Γ := fun l i g => by
  obtain ⟨x, env, h1, h2, h3⟩ := h l i g
  exact ⟨x, env, hl _ _ h1, h2.mono hl, h3⟩
def Ru (w0 : World) (ρ : Nm) (k : KC) (K : Exit -> Env -> List Nat -> World -> Prop) : Prop :=
  ∀ e ae ads s', k e ae ads s' = true -> ∀ ρ' w' env' ds', Le ρ ρ' -> Rel w0 ρ' s' w' -> ER ρ' ae env' -> DR ρ' ads ds' -> K e env' ds' w'
theorem Ru.mono {w0 : World} {ρ ρ' : Nm} {k : KC} {K : Exit -> Env -> List Nat -> World -> Prop} (h : Ru w0 ρ k K) (hl : Le ρ ρ') : Ru w0 ρ' k K :=
  fun e ae ads s' hk ρ1 w' env' ds' l1 => h e ae ads s' hk ρ1 w' env' ds' (hl.trans l1)
def pO (P : Program) (w0 : World) (prev : RunT) : Prop := ∀ nt c r r' an ae ads Γ s k, prev nt c r an ae ads Γ s k = true -> ∀ ρ w env ds K, Rel w0 ρ s w -> ER ρ ae env -> DR ρ ads ds -> GR P ρ Γ -> RR ρ r r' -> Ru w0 ρ k K -> den P nt c r' an env ds w K
def Ko (prev : RunT) : Prop := ∀ nt c r an ae ads Γ s, prev nt c r an ae ads Γ s (fun _ _ _ _ => false) = false
theorem GY : ∀ (ds : List Nat) (s : St), rC ds s (fun _ => false) = false
  | [], _ => rfl
  | D :: ds, s => by
    unfold rC
    simp only [GY ds, pR]
    split <;> rfl
section
variable (P : Program) (A : Tab) {prev : RunT} (hp : Ko prev)
 include hp
theorem JH (Γ : uF) (f : FuncId) (args : List AV) (s : St) : zN P A prev Γ f args s (fun _ _ => false) = false := by
  unfold zN
  split
  · rfl
  unfold FD
  split
  · split
    · rename_i fn an _ _ _ c _
      refine (congrArg (fun q => cond _ q false) ((congrArg (prev fn.ntmps c none an (O1 0 args) [] Γ s) (funext fun e => funext fun env => funext fun ds => funext fun s' => ?_)).trans (hp ..))).trans (aP _)
      have h2 : ∀ (rs : List ResultVar), (rC ds s' fun s'' => match BG P rs env s'' with
          | some vs => false
          | none => false) = false := fun rs => by
          rw [show (fun s'' => (match BG P rs env s'' with
            | some vs => false
            | none => false : Bool)) = fun _ => false from funext fun s'' => by split <;> rfl]
          exact GY _ _
      split <;> first | exact h2 _ | rfl
    · rfl
  · rfl
 omit hp in
theorem SC (nt : Nat) : ∀ (c : Code) (an : qA) (e : AE) (s : St), Dq P nt c an e s (fun _ _ => false) = false := by
  intro c
  induction c with
  | region id ops draw => intro an e s; unfold Dq; rw [JC P Um]; exact aP draw |>.symm ▸ by cases draw <;> rfl
  | seq a b iha ihb =>
    intro an e s
    unfold Dq
    split
    · simp only [ihb, iha]
    · rfl
  | _ => intro an e s; rfl
theorem NY (Γ : uF) (l : Nat) (args : List AV) (s : St) : Bd P prev Γ l args s (fun _ _ => false) = false := by
  unfold Bd
  split
  · rename_i i p hi hl
    refine (congrArg (fun q => cond _ q false) ?_).trans (aP _)
    refine (congrArg (Dq P i.nt i.assign i.x (JW i.ps args ++ i.env) s) (funext fun env1 => funext fun s1 => ?_)).trans (SC P ..)
    refine (congrArg (pF s1 l (.loop .busy p)) (funext fun s2 => ?_)).trans (pR ..)
    refine (congrArg (prev i.nt i.body (some l) i.y env1 [] Γ s2) (funext fun e => funext fun _ => funext fun _ => funext fun s3 => ?_)).trans (hp ..)
    simp only [pR]
    repeat' split
    all_goals simp only [aP]
    all_goals (repeat' split)
    all_goals simp only [aP]
  · rfl
theorem Jg (Γ : uF) : U4 (Oh P A prev Γ) := ⟨fun f args s => JH P A hp Γ f args s, fun l args s => NY P hp Γ l args s⟩
theorem N_ (nt : Nat) (a : Code) (r : Option Nat) (x : qA) (st : List (Nat × Kind)) (base : AE) (Γ : uF) : ∀ (n : Nat) (l : AE) (ds : List Nat) (s : St), Dt prev nt a r x st base Γ (fun _ _ _ _ => false) n l ds s = false
  | 0, _, _, _ => rfl
  | n + 1, l, ds, s => by
    show Bc prev nt a r x st base Γ (fun _ _ _ _ => false) (Dt prev nt a r x st base Γ (fun _ _ _ _ => false) n) l ds s = false
    unfold Bc
    refine (congrArg (prev nt a r x (l ++ base) ds Γ s) (funext fun e => funext fun env' => funext fun ds' => funext fun s' => ?_)).trans (hp ..)
    split
    · split
      · exact N_ nt a r x st base Γ n ..
      · rfl
    · rfl
theorem Sj (nt : Nat) (g : Operand) (ps : List Nat) (assign body : Code) (ks : List Shape) (x y : qA) (env : AE) (ds : List Nat) (Γ : uF) (m : Option Nat) (s : St) : LD P A prev nt g ps assign body ks x y env ds Γ m s (fun _ _ _ _ => false) = false := by
  unfold LD
  split
  · rename_i f first cap hv
    refine (congrArg (fun q => cond _ q false) ?_).trans (aP _)
    refine (congrArg (qN s (.loop .ready .no)) (funext fun l => funext fun s1 => ?_)).trans (yH ..)
    refine (congrArg (zN P A prev ((l, ⟨nt, ps, ks, x, y, assign, body, env⟩) :: Γ) f (first ++ (.yld l :: cap)) s1) (funext fun rs => funext fun s2 => ?_)).trans (JH P A hp ..)
    split
    · rename_i st p hg
      have : (fun (s3 : St) => (match p with
            | .no => false
            | .ret => false
            | .ex id => cond (kY id (ig body)) false false : Bool)) = fun _ => false := by
        funext s3
        cases p <;> first | rfl | exact aP _
      cases p <;> simp only [pR, aP] <;> cases Us st .busy <;> rfl
    · rfl
  · rfl
theorem QD : Ko (Ky P A prev) := by
  intro nt c r an ae ads Γ s
  cases c with
  | skip => rfl
  | label _ => rfl
  | ret => rfl
  | exit _ => rfl
  | region id ops draw =>
    unfold Ky
    dsimp only
    unfold Qa
    rw [EH P (Jg P A hp Γ), JC P (Jg P A hp Γ), aP, aP]
  | seq a b =>
    show Nb prev nt a b r an ae ads Γ s _ = false
    unfold Nb
    split
    · rename_i x y
      refine (congrArg (prev nt a r x ae ads Γ s) (funext fun e => funext fun env' => funext fun ds' => funext fun s' => ?_)).trans (hp ..)
      unfold RY
      split
      · exact hp ..
      · rfl
    · rfl
  | cond c a b =>
    show condC prev nt c a b r an ae ads Γ s _ = false
    unfold condC
    split
    · split
      · rw [hp, hp, aP]
      · rfl
    · rfl
  | block id a =>
    show O4 prev nt id a r an ae ads Γ s _ = false
    unfold O4
    split
    · rename_i x
      refine (congrArg (prev nt a r x ae ads Γ s) (funext fun e => funext fun env' => funext fun ds' => funext fun s' => ?_)).trans (hp ..)
      unfold Sl
      split
      · exact aP _
      · rfl
    · rfl
  | scope a =>
    show prev nt a r an ae ads Γ s (O7 _) = false
    refine (congrArg (prev nt a r an ae ads Γ s) (funext fun e => funext fun env' => funext fun ds' => funext fun s' => ?_)).trans (hp ..)
    unfold O7
    split <;> rfl
  | loop a =>
    show TR prev nt a r an ae ads Γ s _ = false
    unfold TR
    split
    · split
      · exact N_ hp ..
      · rfl
    · rfl
  | rangeFunc g ps assign body =>
    show UC P A prev nt g ps.toList assign body r an ae ads Γ s _ = false
    unfold UC
    simp only [Sj P A hp, yH]
    repeat' split
    all_goals simp only [aP]
    all_goals (repeat' split)
    all_goals simp only [aP]
  | _ => rfl
end
theorem Rf (P : Program) (A : Tab) : ∀ n, Ko (run P A n)
  | 0 => fun _ _ _ _ _ _ _ _ => rfl
  | n + 1 => QD P A (Rf P A n)
end Gp.Rn
end
section
namespace Gp.Rn
open Go Gp
theorem dM (x : Nat) : ∀ l : List Nat, kY x l = true ↔ x ∈ l
  | [] => by simp [kY]
  | y :: r => by
    unfold kY
    by_cases h : y = x
    · rw [show Nat.beq y x = true by rw [h]; exact Nat.beq_refl _, cond_true]; simp [h]
    · have hb : Nat.beq y x = false := by
        cases hb : Nat.beq y x with
        | false => rfl
        | true => exact absurd (Nat.eq_of_beq_eq_true hb) h
      rw [hb, cond_false, dM x r, List.mem_cons]
      exact ⟨.inr, fun g => g.resolve_left fun e => h e.symm⟩
inductive PE (ρ : Nm) : AE -> Env -> Prop
  | nil : PE ρ [] []
  | cons {t a v l m} (h : VR ρ a v) (h' : PE ρ l m) : PE ρ ((t, a) :: l) ((t, v) :: m)
theorem PE.mono {ρ ρ' : Nm} {l : AE} {m : Env} (h : PE ρ l m) (hl : Le ρ ρ') : PE ρ' l m := by
  induction h with
  | nil => exact .nil
  | cons h _ ih => exact .cons (h.mono hl) ih
theorem PE.er {ρ : Nm} {l : AE} {m : Env} (h : PE ρ l m) {e : AE} {env : Env} (he : ER ρ e env) : ER ρ (l ++ e) (m ++ env) := by
  induction h with
  | nil => exact he
  | cons h _ ih => exact ih.cons h _
section
variable {w0 : World} {P : Program} {A : Tab} {prev : RunT}
theorem JD {ρ : Nm} : ∀ {i : Nat} {a : List AV} {v : List Value}, eu ρ a v -> PE ρ (O1 i a) (rJ i v)
  | _, [], _, h => by cases h; exact .nil
  | i, x :: a, _, h => by
    cases h with
    | cons h h' => exact .cons h (JD h')
theorem Gn {ρ : Nm} : ∀ {ps : List Nat} {a : List AV} {v : List Value}, eu ρ a v -> PE ρ (JW ps a) (wL ps v)
  | [], _, _, _ => .nil
  | p :: ps, [], _, h => by cases h; exact .nil
  | p :: ps, x :: a, _, h => by
    cases h with
    | cons h h' => exact .cons h (Gn h')
theorem D8 {ρ : Nm} {K : World -> Prop} : ∀ {ads ds : List Nat} {s : St} {w : World} {k : St -> Bool}, rC ads s k = true -> DR ρ ads ds -> Rel w0 ρ s w -> (∀ s' w', k s' = true -> Rel w0 ρ s' w' -> K w') -> pJ ds w K
  | [], [], s, w, k, h, _, hr, hK => hK s w h hr
  | D :: ads, b :: ds, s, w, k, h, hd, hr, hK => by
    obtain ⟨⟨x, hx, rfl⟩, hd⟩ := hd
    unfold rC at h
    split at h
    · rename_i hg
      obtain ⟨s', h, p1, p2⟩ := iq h
      refine ⟨hr.br D _ x hg hx, D8 h hd (hr.Rj hx hg trivial p1 p2 (bH.bZ w x.b _) trivial) hK⟩
    · cases h
  | [], _ :: _, _, _, _, _, h, _, _ => h.elim
  | _ :: _, [], _, _, _, _, h, _, _ => h.elim
theorem Au {ρ : Nm} {s : St} {w : World} {e : AE} {env : Env} {φ : List Value -> Prop} (hr : Rel w0 ρ s w) (he : ER ρ e env) : ∀ {rs : List ResultVar} {vs : List AV}, BG P rs e s = some vs -> (∀ us, eu ρ vs us -> φ us) -> iE P rs env w φ
  | [], vs, h, hp => by cases h; exact hp [] .nil
  | .tmp t :: r, vs, h, hp => by
    unfold BG at h
    split at h
    · rename_i v l hv hl
      cases h
      obtain ⟨u, h1, h2⟩ := he t v hv
      unfold iE
      rw [h1]
      exact Au (φ := fun vs => φ (u :: vs)) hr he hl fun us hus => hp _ (.cons h2 hus)
    · cases h
  | .cell a t :: r, vs, h, hp => by
    unfold BG at h
    unfold iE
    split at h
    · rename_i i o kd n ha hs hn
      obtain ⟨u, h1, h2⟩ := he a _ ha
      cases h2 with
      | ptr hx =>
      rw [h1, hs, hn]
      dsimp only
      cases hb : Nat.beq 1 n with
      | false => rw [hb] at h; cases h
      | true =>
        rw [hb, cond_true] at h
        show cond (Nat.beq 1 n) _ _
        rw [hb, cond_true]
        split at h
        · rename_i v l hv hl
          cases hk : QE kd v with
          | false => rw [hk] at h; cases h
          | true =>
            rw [hk] at h
            cases h
            obtain ⟨us, g1, g2, g3, _⟩ := qW hr hx hv
            cases g1 with
            | cons g g' =>
            cases g'
            obtain ⟨y, rfl⟩ := pI g hk
            have := g3 0 (by simp)
            rw [bI] at this
            exact ⟨y, this, Au (φ := fun vs => φ (_ :: vs)) hr he hl fun us hus => hp _ (.cons g hus)⟩
        · cases h
    · rename_i i o ks n ha hs hn
      obtain ⟨u, h1, h2⟩ := he a _ ha
      cases h2 with
      | ptr hx =>
      rw [h1, hs, hn]
      dsimp only
      cases hb : Nat.beq ks.length n with
      | false => rw [hb] at h; cases h
      | true =>
        rw [hb, cond_true] at h
        show cond (Nat.beq ks.length n) _ _
        rw [hb, cond_true]
        split at h
        · rename_i v l hv hl
          cases hk : Bh ks v with
          | false => rw [hk] at h; cases h
          | true =>
            rw [hk] at h
            cases h
            obtain ⟨us, g1, g2, g3, _⟩ := qW hr hx hv
            exact Ns ks v us 0 g1 hk (fun j hj => by rw [Nat.zero_add]; exact g3 j hj) (Au (φ := fun vs => φ (_ :: vs)) hr he hl fun us' hus => hp _ (.cons (.agg g1) hus))
        · cases h
    · cases h
theorem ML (hP : xQ P) {f : FuncId} {fn : Func} {c : Code} (hf : P.funcs[f]? = some fn) (hb : fn.body = some c) (an : qA) (args : List Value) (hl : args.length <= fn.ntmps) (w : World) (φ : List Value -> World -> Prop)
    (h : den P fn.ntmps c none an (rJ 0 args) [] w fun e env ds w => match e with
      | .normal => pJ ds w fun w' => iE P fn.results.toList env w' fun vs => φ vs w'
      | .ret => pJ ds w fun w' => iE P fn.results.toList env w' fun vs => φ vs w'
      | _ => False) : Calls P f ⟨args⟩ w fun e w' => ∃ vs, e = .returned (dP vs) ∧ φ vs w' := by
  refine (callsIn_wide (n := 0)).1 ?_
  refine callsIn_of_wp_marks (F := Fr none) hf hb trivial ?_ rfl
  have hsz : ((⟨args⟩ : Array Value) ++ Array.replicate (fn.ntmps - (⟨args⟩ : Array Value).size) undef).size = fn.ntmps := by
    simp; omega
  refine Eh hP fn.ntmps c none an _ [] w _ 0 _ (writes c) _ _ h ⟨fun s v hs => ?_, hsz, rfl, fun _ _ => rfl⟩ (fun s hs => hs) ?_
  · obtain ⟨_, h2⟩ := CW _ _ _ _ hs
    have hlt := (List.getElem?_eq_some_iff.1 h2).1
    simp only [Nat.sub_zero] at h2 hlt
    show ((⟨args⟩ : Array Value) ++ Array.replicate (fn.ntmps - (⟨args⟩ : Array Value).size) undef)[s]? = some v
    rw [Array.getElem?_append_left (by simpa using hlt)]
    simpa using h2
  · intro e env' ds' w' a' ha' _ hk
    have hcl : ∀ w', pJ ds' w' (fun w' => iE P fn.results.toList env' w' fun vs => φ vs w') ->
        LeavesInM (Fr none) 0 P fn a'.tmps (fun e w' => ∃ vs, e = .returned (dP vs) ∧ φ vs w') a'.defers .returning w' := by
      intro w' hw'
      rw [ha'.defers]
      exact xI ha'.agr (φ := φ) (fun vs w hd => ⟨vs, rfl, hd⟩) ds' w' hw'
    cases e with
    | normal => exact hcl w' hk
    | ret => exact hcl w' hk
    | _ => exact hk.elim
theorem KY (hP : xQ P) (hp : pO P w0 prev) {Γ : uF} {f : FuncId} {args : List AV} {s : St} {k : List AV -> St -> Bool} {ρ : Nm} {w : World} {args' : List Value} {K : List Value -> World -> Prop} (h : FD P A prev Γ f args s k = true) (hg : GR P ρ Γ) (hr : Rel w0 ρ s w) (ha : eu ρ args args')
    (hK : ∀ rs s', k rs s' = true -> ∀ ρ' w' rs', Le ρ ρ' -> Rel w0 ρ' s' w' -> eu ρ' rs rs' -> K rs' w') : Calls P f ⟨args'⟩ w fun e w' => ∃ vs, e = .returned (dP vs) ∧ K vs w' := by
  unfold FD at h
  split at h
  · rename_i fn an hf han
    split at h
    · rename_i c hb
      obtain ⟨hl, h⟩ := au h
      have hl := Nat.le_of_ble_eq_true hl
      rw [ha.len] at hl
      refine ML hP hf hb an args' hl w K ?_
      have he : ER ρ (O1 0 args) (rJ 0 args') := by
        have := (JD (i := 0) ha).er (e := []) (env := []) ER.nil
        simpa using this
      refine hp _ _ _ none _ _ _ _ _ _ h ρ w _ [] _ hr he trivial hg trivial ?_
      intro e ae ads s' hk ρ' w' env' ds' l' r' he' hd'
      have fin : (rC ads s' fun s'' => match BG P fn.results.toList ae s'' with
          | some vs => k vs s''
          | none => false) = true -> pJ ds' w' fun w' => iE P fn.results.toList env' w' fun vs => K vs w' := by
        intro hk
        refine D8 hk hd' r' fun s'' w'' hk r'' => ?_
        split at hk
        · rename_i vs hvs
          exact Au r'' he' hvs fun us hus => hK _ _ hk ρ' w'' us l' r'' hus
        · cases hk
      cases e with
      | normal => exact fin hk
      | ret => exact fin hk
      | _ => cases hk
    · cases h
  · cases h
def vX (P : Program) (w0 : World) (M : List P_) : Prop := ∀ m ∈ M, ∀ ρ w args', Rel w0 ρ m.s w -> eu ρ m.args args' ->
  Calls P m.f ⟨args'⟩ w fun e w' => ∃ ρ' vs, Le ρ ρ' ∧ Rel w0 ρ' m.t w' ∧ eu ρ' m.rs vs ∧ e = .returned (dP vs)
theorem En {f : FuncId} {args : List AV} {s : St} {q : List AV × St} : ∀ {M : List P_}, CB M f args s = some q -> ∃ m ∈ M, m.f = f ∧ m.args = args ∧ m.s.h = s.h ∧ q = (m.rs, m.t)
  | [], h => by cases h
  | m :: r, h => by
    unfold CB at h
    have rest : CB r f args s = some q -> ∃ m' ∈ m :: r, m'.f = f ∧ m'.args = args ∧ m'.s.h = s.h ∧ q = (m'.rs, m'.t) := fun h => by
      obtain ⟨m', h1, h2⟩ := En h
      exact ⟨m', List.mem_cons_of_mem _ h1, h2⟩
    cases h1 : Nat.beq m.f f with
    | false => rw [h1] at h; exact rest h
    | true =>
      cases h2 : Nat.beq m.s.n s.n with
      | false => rw [h1, h2] at h; exact rest h
      | true =>
        cases h3 : sW m.args args && Dn m.s.h s.h with
        | false => rw [h1, h2, h3] at h; exact rest h
        | true =>
          rw [h1, h2, h3] at h
          rw [Bool.and_eq_true] at h3
          exact ⟨m, List.mem_cons_self .., Nat.eq_of_beq_eq_true h1, (mF _ _ h3.1).1, Ar h3.2, (Option.some.inj h).symm⟩
theorem Di (hP : xQ P) (hp : pO P w0 prev) (hM : vX P w0 A.memo) {Γ : uF} {f : FuncId} {args : List AV} {s : St} {k : List AV -> St -> Bool} {ρ : Nm} {w : World} {args' : List Value} {K : List Value -> World -> Prop} (h : zN P A prev Γ f args s k = true) (hg : GR P ρ Γ) (hr : Rel w0 ρ s w) (ha : eu ρ args args')
    (hK : ∀ rs s', k rs s' = true -> ∀ ρ' w' rs', Le ρ ρ' -> Rel w0 ρ' s' w' -> eu ρ' rs rs' -> K rs' w') : Calls P f ⟨args'⟩ w fun e w' => ∃ vs, e = .returned (dP vs) ∧ K vs w' := by
  unfold zN at h
  split at h
  · rename_i rs t hm
    obtain ⟨m, hmem, h1, h2, h3, h4⟩ := En hm
    cases h4
    have hr' : Rel w0 ρ m.s w := by
      have := hr.names (n := m.s.n)
      rw [<- h3] at this
      exact this
    rw [<- h1]
    refine Calls.mono (hM m hmem ρ w args' hr' (by rw [h2]; exact ha)) ?_
    rintro e w' ⟨ρ', vs, l', r', v', rfl⟩
    exact ⟨vs, rfl, hK _ _ h ρ' w' vs l' r' v'⟩
  · exact KY hP hp h hg hr ha hK
theorem QI {nt : Nat} : ∀ {c : Code} {an : qA} {r : Option Nat} {e : AE} {env : Env} {s : St} {w : World} {ρ : Nm} {ds : List Nat} {k : AE -> St -> Bool} {K : Exit -> Env -> List Nat -> World -> Prop}, Dq P nt c an e s k = true -> Rel w0 ρ s w -> ER ρ e env -> KE true w0 ρ s w k (fun env' w' => K .normal env' ds w') -> den P nt c r an env ds w K := by
  intro c
  induction c with
  | skip => intro an r e env s w ρ ds k K h hr he hK; exact hK _ _ h ρ w env (Le.refl ρ) hr he fun _ => Lp.refl ρ s w
  | region id ops draw =>
    intro an r e env s w ρ ds k K h hr he hK
    unfold Dq at h
    unfold den
    cases draw with
    | true => cases h
    | false =>
      rw [cond_false] at h
      rw [cond_false]
      exact Fh (SE P w0 ρ) h (Le.refl ρ) hr he hK
  | seq a b iha ihb =>
    intro an r e env s w ρ ds k K h hr he hK
    unfold Dq at h
    unfold den
    split at h
    · rename_i x y
      dsimp only
      refine iha h hr he fun e1 s1 hk ρ1 w1 env1 l1 r1 he1 p1 => ?_
      dsimp only
      exact ihb hk r1 he1 (hK.step l1 p1)
    · cases h
  | _ => intro an r e env s w ρ ds k K h; cases h
theorem Ei {ρ : Nm} : ∀ {ks : List Shape} {a : List AV} {v : List Value}, eu ρ a v -> wu ks a = true -> ∃ x : xu ks, v = encR ks x
  | [], [], _, h, _ => by cases h; exact ⟨(), rfl⟩
  | [], _ :: _, _, _, g => by cases g
  | _ :: _, [], _, _, g => by cases g
  | k :: ks, y :: a, _, h, g => by
    cases h with
    | cons h h' =>
    rename_i v0 vs0
    unfold wu at g
    rw [Bool.and_eq_true] at g
    obtain ⟨x', rfl⟩ := Ei h' g.2
    have : ∃ x : ShT k, v0 = Ku k x := by
      have g1 := g.1
      cases k with
      | one kd => obtain ⟨x, rfl⟩ := pI h g1; exact ⟨x, rfl⟩
      | agg kk =>
        cases h with
        | agg h =>
          have hks : ∀ {ks : List Kind} {a : List AV} {v : List Value}, eu ρ a v -> Bh ks a = true -> ∃ x : IE ks, v = Aa ks x := by
            intro ks
            induction ks with
            | nil =>
              intro a v h g
              cases a with
              | nil => cases h; exact ⟨(), rfl⟩
              | cons _ _ => cases g
            | cons k ks ih =>
              intro a v h g
              cases h with
              | nil => cases g
              | cons h h' =>
                unfold Bh at g
                rw [Bool.and_eq_true] at g
                obtain ⟨x, rfl⟩ := pI h g.1
                obtain ⟨x', rfl⟩ := ih h' g.2
                exact ⟨(x, x'), rfl⟩
          obtain ⟨x, rfl⟩ := hks h g1
          exact ⟨x, rfl⟩
        | _ => cases g1
    obtain ⟨x, rfl⟩ := this
    exact ⟨(x, x'), rfl⟩
theorem SN {a b : SV} (h : TL a b = true) : a = b := by
  cases a <;> cases b <;> first | rfl | cases h | skip
  unfold TL at h
  rw [Nat.eq_of_beq_eq_true h]
theorem LH (hp : pO P w0 prev) {Γ : uF} {l : Nat} {args : List AV} {s : St} {k : Bool -> St -> Bool} {ρ : Nm} {w : World} {args' : List Value} {x : Loc} {K : Bool -> World -> Prop} (h : Bd P prev Γ l args s k = true) (hg : GR P ρ Γ) (hr : Rel w0 ρ s w) (hx : ρ l = some x) (ha : eu ρ args args')
    (hK : ∀ b s', k b s' = true -> ∀ ρ' w', Le ρ ρ' -> Rel w0 ρ' s' w' -> K b w') : rD P x.b args' w K := by
  unfold Bd at h
  split at h
  · rename_i i p hi hl
    obtain ⟨hsh, h⟩ := au h
    obtain ⟨xs, rfl⟩ := Ei ha hsh
    obtain ⟨x', env, hx', hE, hY⟩ := hg l i hi
    rw [hx] at hx'
    cases hx'
    obtain ⟨hL, hLo⟩ := hr.br l _ x hl hx
    refine hY xs w (BJ p) K hL ?_
    unfold Q9
    refine QI h hr ((Gn ha).er hE) fun env1 s1 hk ρ1 w1 env1' l1 r1 he1 p1 => ?_
    dsimp only
    obtain ⟨q1, q2⟩ := p1 rfl l x .ready p hl hx
    refine ⟨q2, ?_⟩
    have hx1 := l1 _ _ hx
    obtain ⟨s2, hk, a1, a2⟩ := iq hk
    obtain ⟨hL1, _⟩ := r1.br l _ x q1 hx1
    have r2 : Rel w0 ρ1 s2 (ak w1 x.b) := r1.Rj hx1 q1 trivial a1 a2 (bH.ak w1 x.b) ⟨hLo.busy _ _ hL1, hLo⟩
    refine hp _ _ _ (some x.b) _ _ _ _ _ _ hk ρ1 (ak w1 x.b) env1' [] _ r2 he1 trivial (hg.mono l1) ⟨x, hx1, rfl⟩ ?_
    intro e ae ads s3 hk ρ3 w3 env3 ds3 l3 r3 he3 hd3
    have hx3 := l3 _ _ hx1
    dsimp only at hk
    split at hk
    · rename_i p3 hg3
      obtain ⟨hj, hq⟩ := au hk
      clear hk
      have := SN hj
      subst this
      obtain ⟨hL3, _⟩ := r3.br l _ x hg3 hx3
      refine ⟨hL3, ?_⟩
      have fin : ∀ (st : LoopState) (j : SV) (b : Bool), (pF s3 l (.loop st j) fun s4 => k b s4) = true -> K b (bM w3 x.b st (BJ j)) := by
        intro st j b hk
        obtain ⟨s4, hk, b1, b2⟩ := iq hk
        exact hK b s4 hk ρ3 _ (l1.trans l3) (r3.Rj hx3 hg3 trivial b1 b2 (bH.bM w3 x.b st (BJ j)) ⟨hLo.set _ _ _ _ _ hL3, hLo⟩)
      cases e with
      | normal => exact ⟨none, rfl, fin .ready .no true hq⟩
      | ret => exact ⟨some .ret, rfl, fin .done .ret false hq⟩
      | exit id => exact ⟨some (.exit id), rfl, fin .done (.ex id) false hq⟩
      | _ => cases hq
    · cases hk
  · cases h
theorem QV (hP : xQ P) (hp : pO P w0 prev) (hM : vX P w0 A.memo) {Γ : uF} {ρ0 : Nm} (hg : GR P ρ0 Γ) : CS false P w0 ρ0 (Oh P A prev Γ) :=
  ⟨fun f args s k ρ w args' K h hl hr ha hK => Di hP hp hM h (hg.mono hl) hr ha fun rs s' hk ρ' w' rs' l' r' v' => hK rs s' hk ρ' w' rs' l' r' v' fun e => (by cases e),
   fun l args s k ρ w args' x K h hl hr hx ha hK => LH hp h (hg.mono hl) hr hx ha fun b s' hk ρ' w' l' r' => hK b s' hk ρ' w' l' r' fun e => (by cases e)⟩
theorem AE.eP (ws : List Nat) : ∀ (e : AE) (t : Nat), (AE.without ws e).get t = if t ∈ ws then none else e.get t
  | [], t => by unfold AE.without; rw [AE.get_nil]; split <;> rfl
  | (s, v) :: e, t => by
    unfold AE.without
    have ih := AE.eP ws e t
    cases hm : kY s ws with
    | true =>
      have hs := (dM s ws).1 hm
      rw [cond_true, ih, AE.bV]
      by_cases h : t ∈ ws
      · rw [if_pos h, if_pos h]
      · rw [if_neg h, if_neg h, if_neg fun (e : s = t) => h (e ▸ hs)]
    | false =>
      have hs : s ∉ ws := fun h => by rw [(dM s ws).2 h] at hm; cases hm
      rw [cond_false, AE.bV, AE.bV, ih]
      by_cases h : s = t
      · subst h; rw [if_pos rfl, if_pos rfl, if_neg hs]
      · rw [if_neg h, if_neg h]
theorem Env.eP (ws : List Nat) : ∀ (e : Env) (t : Nat), t ∉ ws -> (without ws e).get t = e.get t
  | [], t, _ => rfl
  | (s, v) :: e, t, h => by
    unfold without
    have ih := Env.eP ws e t h
    cases hm : kY s ws with
    | true =>
      have hs := (dM s ws).1 hm
      rw [cond_true, ih, bV, if_neg fun (e : s = t) => h (e ▸ hs)]
    | false =>
      rw [cond_false, bV, bV, ih]
theorem ER.without {ρ : Nm} {e : AE} {env : Env} (h : ER ρ e env) (ws : List Nat) : ER ρ (AE.without ws e) (Gp.without ws env) := fun t v g => by
  rw [AE.eP] at g
  split at g
  · cases g
  · rename_i ht
    rw [Env.eP ws env t ht]
    exact h t v g
theorem xE {ρ : Nm} : ∀ {st : List (Nat × Kind)} {e : AE} {env : Env} {l : AE} {φ : wM st -> Prop}, Gw st e = some l -> ER ρ e env -> (∀ s : wM st, PE ρ l (encS st s) -> φ s) -> Dk st env φ
  | [], e, env, l, φ, h, he, hK => by cases h; exact hK () .nil
  | (t, kd) :: r, e, env, l, φ, h, he, hK => by
    unfold Gw at h
    split at h
    · rename_i v hv
      cases hk : QE kd v with
      | false => rw [hk] at h; cases h
      | true =>
        rw [hk, cond_true] at h
        split at h
        · rename_i m hm
          cases h
          obtain ⟨u, h1, h2⟩ := he t v hv
          obtain ⟨y, rfl⟩ := pI h2 hk
          unfold Dk
          rw [h1]
          dsimp only
          rw [wo]
          exact xE hm he fun s hs => hK (y, s) (.cons h2 hs)
        · cases h
    · cases h
theorem Gu (hp : pO P w0 prev) {nt : Nat} {a : Code} {r r' : Option Nat} {x : qA} {st : List (Nat × Kind)} {base : AE} {benv : Env} {Γ : uF} {k : KC} {ρ : Nm} {K : Exit -> Env -> List Nat -> World -> Prop} (hg : GR P ρ Γ) (hrr : RR ρ r r') (hb : ER ρ base benv) (hK : Ru w0 ρ k K)
    {n : Nat} {l : AE} {ads : List Nat} {σ : St} {ρ1 : Nm} {w : World} {env : Env} {ds : List Nat} (h : Dt prev nt a r x st base Γ k (n + 1) l ads σ = true) (hl : Le ρ ρ1) (hr : Rel w0 ρ1 σ w) (hs : PE ρ1 l env) (hd : DR ρ1 ads ds)
    (next : wM st -> List Nat -> World -> Prop) (hnext : ∀ l' ads' σ' ρ2 s' ds' w', Dt prev nt a r x st base Γ k n l' ads' σ' = true -> Le ρ ρ2 -> Rel w0 ρ2 σ' w' -> PE ρ2 l' (encS st s') -> DR ρ2 ads' (cond (dw a) ds' ds) -> next s' ds' w') :
    den P nt a r' x (env ++ benv) ds w fun e env' ds' w' => match e with
      | .normal => Dk st env' fun s' => next s' ds' w'
      | e => K e env' ds' w' := by
  have h : Bc prev nt a r x st base Γ k (Dt prev nt a r x st base Γ k n) l ads σ = true := h
  unfold Bc at h
  refine hp _ _ _ r' _ _ _ _ _ _ h ρ1 w _ ds _ hr (hs.er (hb.mono hl)) hd (hg.mono hl) (hrr.mono hl) ?_
  intro e ae ads' s' hk ρ2 w' env' ds' l2 r2 he2 hd2
  cases e with
  | normal =>
    dsimp only at hk ⊢
    split at hk
    · rename_i l' hl'
      refine xE hl' he2 fun s1 hs1 => hnext l' _ s' ρ2 s1 ds' w' hk (hl.trans l2) r2 hs1 ?_
      cases dw a with
      | true => exact hd2
      | false => exact hd.mono l2
    · cases hk
  | _ => exact hK _ _ _ _ hk ρ2 w' env' ds' (hl.trans l2) r2 he2 hd2
end
end Gp.Rn
end
section
namespace Gp.Rn
open Go Gp
section
variable {w0 : World} {P : Program} {A : Tab} {prev : RunT}
theorem SH (hp : pO P w0 prev) {nt : Nat} {a : Code} {r r' : Option Nat} {an : qA} {ae : AE} {ads : List Nat} {Γ : uF} {s : St} {k : KC} {ρ : Nm} {w : World} {env : Env} {ds : List Nat} {K : Exit -> Env -> List Nat -> World -> Prop}
    (h : TR prev nt a r an ae ads Γ s k = true) (hr : Rel w0 ρ s w) (he : ER ρ ae env) (hd : DR ρ ads ds) (hg : GR P ρ Γ) (hrr : RR ρ r r') (hK : Ru w0 ρ k K) : den P nt (.loop a) r' an env ds w K := by
  unfold TR at h
  split at h
  · rename_i st x
    split at h
    · rename_i l hl
      have hb := he.without (writes a)
      unfold den
      dsimp only
      generalize 1000000 = N at h
      cases hra : dw a with
      | true =>
        rw [cond_true]
        refine xE hl he fun s0 hs0 => ?_
        refine ⟨fun n S W => ∃ l ads σ ρ1, Dt prev nt a r x st (AE.without (writes a) ae) Γ k n l ads σ = true ∧ Le ρ ρ1 ∧ Rel w0 ρ1 σ W ∧ PE ρ1 l (encS st S.1) ∧ DR ρ1 ads S.2, ⟨N, l, ads, s, ρ, h, Le.refl ρ, hr, hs0, hd⟩, ?_⟩
        rintro n ⟨S, D⟩ W ⟨l1, ads1, σ1, ρ1, h1, l2, r1, p1, d1⟩
        cases n with
        | zero => cases h1
        | succ n =>
          refine Gu hp hg hrr hb hK h1 l2 r1 p1 d1 (fun s' ds' w' => ∃ m, m < n + 1 ∧ ∃ l ads σ ρ1, Dt prev nt a r x st (AE.without (writes a) ae) Γ k m l ads σ = true ∧ Le ρ ρ1 ∧ Rel w0 ρ1 σ w' ∧ PE ρ1 l (encS st s') ∧ DR ρ1 ads ds') fun l' ads' σ' ρ2 s' ds' w' q1 q2 q3 q4 q5 => ?_
          rw [hra] at q5
          exact ⟨n, Nat.lt_succ_self n, l', ads', σ', ρ2, q1, q2, q3, q4, q5⟩
      | false =>
        rw [cond_false]
        refine xE hl he fun s0 hs0 => ?_
        refine ⟨fun n S W => ∃ l ads σ ρ1, Dt prev nt a r x st (AE.without (writes a) ae) Γ k n l ads σ = true ∧ Le ρ ρ1 ∧ Rel w0 ρ1 σ W ∧ PE ρ1 l (encS st S) ∧ DR ρ1 ads ds, ⟨N, l, ads, s, ρ, h, Le.refl ρ, hr, hs0, hd⟩, ?_⟩
        rintro n S W ⟨l1, ads1, σ1, ρ1, h1, l2, r1, p1, d1⟩
        cases n with
        | zero => cases h1
        | succ n =>
          refine Gu hp hg hrr hb hK h1 l2 r1 p1 d1 (fun s' ds' w' => ∃ m, m < n + 1 ∧ ∃ l ads σ ρ1, Dt prev nt a r x st (AE.without (writes a) ae) Γ k m l ads σ = true ∧ Le ρ ρ1 ∧ Rel w0 ρ1 σ w' ∧ PE ρ1 l (encS st s') ∧ DR ρ1 ads ds) fun l' ads' σ' ρ2 s' ds' w' q1 q2 q3 q4 q5 => ?_
          rw [hra] at q5
          exact ⟨n, Nat.lt_succ_self n, l', ads', σ', ρ2, q1, q2, q3, q4, q5⟩
    · cases h
  · cases h
theorem Ib {id : Nat} {f : Nat -> World -> Prop} {w : World} : ∀ {l : List Nat}, kY id l = true -> f id w -> Cc id (l.map fun i => (i, f i)) w
  | [], h, _ => by cases h
  | i :: l, h, hf => by
    rw [List.map_cons]
    unfold Cc
    unfold kY at h
    by_cases hi : i = id
    · rw [show Nat.beq i id = true by rw [hi]; exact Nat.beq_refl _, cond_true, hi]; exact hf
    · have hb : Nat.beq i id = false := by
        cases hb : Nat.beq i id with
        | false => rfl
        | true => exact absurd (Nat.eq_of_beq_eq_true hb) hi
      rw [hb, cond_false] at h
      rw [hb, cond_false]
      exact Ib h hf
theorem Kv (hP : xQ P) (hp : pO P w0 prev) (hM : vX P w0 A.memo) {nt : Nat} {g : Operand} {ps : List Nat} {assign body : Code} {ks : List Shape} {x y : qA} {r r' : Option Nat} {ae : AE} {ads : List Nat} {Γ : uF} {m : Option Nat} {s s0 : St} {k : KC} {ρ : Nm} {w : World} {env : Env} {ds : List Nat} {K : Exit -> Env -> List Nat -> World -> Prop}
    (h : LD P A prev nt g ps assign body ks x y ae ads Γ m s k = true)
    (hm : (m = none ∧ s0 = s ∧ r' ≠ none) ∨ ∃ i, m = some i ∧ r' = none ∧ s0.h.get i = none ∧ s.h.get i = some .mark ∧ ∀ j, j ≠ i -> s.h.get j = s0.h.get j)
    (hloop : ∀ l₀, r' = some l₀ -> ∃ lp, w.heap[l₀]? = some (.loop lp)) (hr : Rel w0 ρ s0 w) (he : ER ρ ae env) (hd : DR ρ ads ds) (hg : GR P ρ Γ) (hK : Ru w0 ρ k K) :
    Ag P r' ks (ev env g) w
      (fun l x' W Kb => den P nt assign (some l) x (wL ps (encR ks x') ++ env) [] W fun e env1 _ W1 => match e with
        | .normal => W1.heap[l]? = W.heap[l]? ∧ den P nt body (some l) y env1 [] (ak W1 l) fun e _ _ W2 => Kb e W2
        | _ => False)
      (fun w' => K .normal env (cond r'.isNone (w.heap.size :: ds) ds) w') (fun w' => K .ret env (cond r'.isNone (w.heap.size :: ds) ds) w')
      ((ig body).map fun id => (id, fun w' => K (.exit id) env (cond r'.isNone (w.heap.size :: ds) ds) w')) := by
  unfold LD at h
  split at h
  · rename_i f first cap hv
    obtain ⟨v, hv1, hv2⟩ := CU he hv
    have hev : ev env g = v := by unfold ev; rw [hv1]; rfl
    cases hv2 with
    | @fn _ _ first' _ cap' hf hc =>
    refine ⟨hloop, ?_⟩
    rw [hev]
    obtain ⟨hb, h⟩ := au h
    refine ⟨hb, fun l L w1 cx => ?_⟩
    obtain ⟨i, s2, h, q0, q1, q2⟩ := fF h
    have hold : Ext w w1 := fun S => ⟨by have := cx.size; have := cx.at_; split at this <;> omega, fun b hb _ => cx.old b hb, cx.io⟩
    have hlo : Vg ⟨l, 0, L⟩ := ⟨cx.frame, cx.set, cx.busy, cx.isLoop⟩
    have hsz : w.heap.size <= l ∧ l < w1.heap.size := by have := cx.size; have := cx.at_; split at this <;> omega
    have hez := hr.ext.size
    have hbr : ∀ j b z, s0.h.get j = some b -> ρ j = some z -> BR ρ w1 z b := fun j b z g1 g2 => (hr.br j b z g1 g2).same (cx.old _ (hr.new j z g2).2)
    have step : ∃ ρ1, Le ρ ρ1 ∧ Rel w0 ρ1 s w1 ∧ (∀ j b z, s.h.get j = some b -> live b -> ρ1 j = some z -> z.b ≠ l) ∧ DR ρ1 (m.toList ++ ads) (cond r'.isNone (w.heap.size :: ds) ds) := by
      rcases hm with ⟨rfl, rfl, hn⟩ | ⟨j, rfl, rfl, g0, g1, g2⟩
      · refine ⟨ρ, Le.refl ρ, ⟨hr.dom, hr.fresh, hbr, fun j z g => ⟨(hr.new j z g).1, by have := (hr.new j z g).2; omega⟩, hr.inj, hr.ext.trans hold⟩, fun j b z g1 g2 g3 => by have := (hr.new j z g3).2; omega, ?_⟩
        cases r' with
        | none => exact absurd rfl hn
        | some _ => exact hd
      · have hl1 : l = w.heap.size + 1 := cx.at_
        obtain ⟨a1, a2⟩ := hr.add (w' := w1) (x := ⟨w.heap.size, 0, fun _ _ _ => False⟩) g0 g1 g2 ⟨hez, by have := cx.size; simp only; omega⟩ (cx.marks rfl) hbr (fun j b z g1 g2 g3 => by have := (hr.new j z g3).2; simp only; omega) hold.size (hr.ext.trans hold)
        refine ⟨_, a2, a1, fun k b z g3 g4 g5 => ?_, ⟨⟨_, cu ρ j _, rfl⟩, hd.mono a2⟩⟩
        unfold upd at g5
        split at g5
        · cases g5; simp only; omega
        · have := (hr.new k z g5).2; omega
    obtain ⟨ρ1, l1, r1, hdis, hd1⟩ := step
    obtain ⟨r2, l2⟩ := r1.add (w' := w1) (x := ⟨l, 0, L⟩) q0 q1 q2 ⟨by simp only; omega, hsz.2⟩ ⟨cx.ready, hlo⟩ (fun j b z g1 g2 => r1.br j b z g1 g2) hdis (Nat.le_refl _) r1.ext
    have l12 := l1.trans l2
    have hxl := cu ρ1 i ⟨l, 0, L⟩
    have hΓ : GR P (upd ρ1 i ⟨l, 0, L⟩) ((i, ⟨nt, ps, ks, x, y, assign, body, ae⟩) :: Γ) := by
      intro j info hj
      unfold uF.get at hj
      by_cases hij : i = j
      · subst hij
        rw [show Nat.beq i i = true from Nat.beq_refl _, cond_true] at hj
        cases hj
        exact ⟨_, env, hxl, he.mono l12, fun xs W p R h1 h2 => cx.yield xs W p R h1 h2⟩
      · have hbq : Nat.beq i j = false := by
          cases hbq : Nat.beq i j with
          | false => rfl
          | true => exact absurd (Nat.eq_of_beq_eq_true hbq) hij
        rw [hbq, cond_false] at hj
        exact (hg.mono l12) j info hj
    refine Calls.mono (Di hP hp hM (K := fun vs w2 => vs = [] ∧ ∃ st p, L st p w2 ∧ st ≠ .busy ∧ Nv (fun w' => K .normal env (cond r'.isNone (w.heap.size :: ds) ds) w') (fun w' => K .ret env (cond r'.isNone (w.heap.size :: ds) ds) w') ((ig body).map fun id => (id, fun w' => K (.exit id) env (cond r'.isNone (w.heap.size :: ds) ds) w')) p (bM w2 l .exhausted p)) h hΓ r2 ((hf.mono l12).app (.cons (.yld hxl) (hc.mono l12))) fun rs s3 hk ρ3 w3 rs' l3 r3 v3 => ?_) ?_
    · split at hk
      · rename_i st p hg3
        cases v3
        refine ⟨rfl, ?_⟩
        have hx3 := l3 _ _ hxl
        obtain ⟨hL3, _⟩ := r3.br i _ _ hg3 hx3
        cases hbz : Us st .busy with
        | true => rw [hbz] at hk; cases hk
        | false =>
          rw [hbz, cond_false] at hk
          obtain ⟨s4, hk, b1, b2⟩ := iq hk
          refine ⟨st, BJ p, hL3, fun e => (by rw [e] at hbz; cases hbz), ?_⟩
          have r4 : Rel w0 ρ3 s4 (bM w3 l .exhausted (BJ p)) := r3.Rj hx3 hg3 trivial b1 b2 (bH.bM w3 l .exhausted (BJ p)) trivial
          have l03 := l12.trans l3
          have hd3 := hd1.mono (l2.trans l3)
          have he3 := he.mono l03
          cases p with
          | no => exact hK _ _ _ _ hk ρ3 _ env _ l03 r4 he3 hd3
          | ret => exact hK _ _ _ _ hk ρ3 _ env _ l03 r4 he3 hd3
          | ex id =>
            obtain ⟨g1, hk⟩ := au hk
            exact Ib (f := fun id w' => K (.exit id) env (cond r'.isNone (w.heap.size :: ds) ds) w') g1 (hK _ _ _ _ hk ρ3 _ env _ l03 r4 he3 hd3)
      · cases hk
    · rintro e w2 ⟨vs, rfl, rfl, hx⟩
      exact ⟨rfl, hx⟩
  · cases h
theorem NZ (hP : xQ P) (hp : pO P w0 prev) (hM : vX P w0 A.memo) (hpf : Ko prev) : pO P w0 (Ky P A prev) := by
  intro nt c r r' an ae ads Γ s k h ρ w env ds K hr he hd hg hrr hK
  cases c with
  | skip => exact hK _ _ _ _ h ρ w env ds (Le.refl ρ) hr he hd
  | label _ => exact hK _ _ _ _ h ρ w env ds (Le.refl ρ) hr he hd
  | ret => exact hK _ _ _ _ h ρ w env ds (Le.refl ρ) hr he hd
  | exit id => exact hK _ _ _ _ h ρ w env ds (Le.refl ρ) hr he hd
  | region id ops draw =>
    have h : Qa P A prev nt ops.toList draw ae ads Γ s k = true := h
    unfold Qa at h
    unfold den
    have hcb : CS false P w0 ρ (Oh P A prev Γ) := QV hP hp hM hg
    cases draw with
    | true =>
      rw [cond_true] at h
      rw [cond_true]
      obtain ⟨h1, h⟩ := au h
      unfold wS
      rw [h1, cond_true]
      exact G8 hcb (Jg P A hpf Γ) _ _ _ _ _ [] _ _ _ h ρ w.drew env _ (Le.refl ρ) hr.drew he (fun i sh a v hm => by cases hm) fun e' s' a hk ρ' w' env' l' r1 he' _ => hK _ _ _ _ hk ρ' w' env' ds l' r1 he' (hd.mono l')
    | false =>
      rw [cond_false] at h
      rw [cond_false]
      exact Fh hcb h (Le.refl ρ) hr he fun e' s' hk ρ' w' env' l' r1 he' _ => hK _ _ _ _ hk ρ' w' env' ds l' r1 he' (hd.mono l')
  | seq a b =>
    have h : Nb prev nt a b r an ae ads Γ s k = true := h
    unfold Nb at h
    split at h
    · rename_i x y
      unfold den
      dsimp only
      refine hp _ _ _ r' _ _ _ _ _ _ h ρ w env ds _ hr he hd hg hrr fun e ae' ads' s' hk ρ' w' env' ds' l' r1 he' hd' => ?_
      unfold RY at hk
      cases e with
      | normal => exact hp _ _ _ r' _ _ _ _ _ _ hk ρ' w' env' ds' K r1 he' hd' (hg.mono l') (hrr.mono l') (hK.mono l')
      | _ => exact hK _ _ _ _ hk ρ' w' env' ds' l' r1 he' hd'
    · cases h
  | cond c a b =>
    have h : condC prev nt c a b r an ae ads Γ s k = true := h
    unfold condC at h
    split at h
    · rename_i x y
      unfold den
      dsimp only
      split at h
      · rename_i t ht
        obtain ⟨v, h1, h2⟩ := CU he ht
        cases h2
        rw [h1]
        dsimp only
        cases t with
        | true => exact hp _ _ _ r' _ _ _ _ _ _ h ρ w env ds K hr he hd hg hrr hK
        | false => exact hp _ _ _ r' _ _ _ _ _ _ h ρ w env ds K hr he hd hg hrr hK
      · cases h
    · cases h
  | block id a =>
    have h : O4 prev nt id a r an ae ads Γ s k = true := h
    unfold O4 at h
    split at h
    · rename_i x
      unfold den
      dsimp only
      refine hp _ _ _ r' _ _ _ _ _ _ h ρ w env ds _ hr he hd hg hrr fun e ae' ads' s' hk ρ' w' env' ds' l' r1 he' hd' => ?_
      unfold Sl at hk
      cases e with
      | exit id' =>
        dsimp only at hk ⊢
        cases hb : Nat.beq id' id with
        | true => rw [hb, cond_true] at hk; rw [cond_true]; exact hK _ _ _ _ hk ρ' w' env' ds' l' r1 he' hd'
        | false => rw [hb, cond_false] at hk; rw [cond_false]; exact hK _ _ _ _ hk ρ' w' env' ds' l' r1 he' hd'
      | _ => exact hK _ _ _ _ hk ρ' w' env' ds' l' r1 he' hd'
    · cases h
  | scope a =>
    have h : prev nt a r an ae ads Γ s (O7 k) = true := h
    unfold den
    refine hp _ _ _ r' _ _ _ _ _ _ h ρ w env ds _ hr he hd hg hrr fun e ae' ads' s' hk ρ' w' env' ds' l' r1 he' hd' => ?_
    unfold O7 at hk
    cases e with
    | goto _ => cases hk
    | _ => exact hK _ _ _ _ hk ρ' w' env' ds' l' r1 he' hd'
  | loop a =>
    have h : TR prev nt a r an ae ads Γ s k = true := h
    exact SH hp h hr he hd hg hrr hK
  | rangeFunc g ps assign body =>
    have h : UC P A prev nt g ps.toList assign body r an ae ads Γ s k = true := h
    unfold UC at h
    split at h
    · rename_i ks x y
      obtain ⟨h1, h⟩ := au h
      unfold den
      dsimp only
      rw [h1, cond_true]
      cases r with
      | none =>
        dsimp only at h
        cases r' with
        | some _ => exact hrr.elim
        | none =>
        obtain ⟨m, s1, h, q0, q1, q2⟩ := fF h
        exact Kv (r := none) hP hp hM h (.inr ⟨m, rfl, rfl, q0, q1, q2⟩) (fun l₀ e => by cases e) hr he hd hg hK
      | some l0 =>
        dsimp only at h
        cases r' with
        | none => exact hrr.elim
        | some b =>
        obtain ⟨z, hz, rfl⟩ := hrr
        split at h
        · rename_i st p hgl
          obtain ⟨hL, hLo⟩ := hr.br l0 _ z hgl hz
          exact Kv (r := some l0) hP hp hM h (.inl ⟨rfl, rfl, by simp⟩) (fun l₀ e => by cases e; exact hLo.isLoop _ _ _ hL) hr he hd hg hK
        · cases h
    · cases h
  | _ => cases h
theorem M_ (hP : xQ P) (hM : vX P w0 A.memo) : ∀ n, pO P w0 (run P A n)
  | 0 => fun nt c r r' an ae ads Γ s k h => by cases h
  | n + 1 => NZ hP (M_ hP hM n) hM (Rf P A n)
theorem QO (hP : xQ P) (hM : ∀ w0, vX P w0 A.memo) {n : Nat} {f : FuncId} (h : TI P A n f (fun rs _ => match rs with
    | [.bool true] => true
    | _ => false) = true) (w : World) : Calls P f ⟨[]⟩ w fun e w' => e = .returned (.bool true) ∧ Ext w w' := by
  unfold TI at h
  have hr : Rel w (fun _ => none) ⟨.lf, 0⟩ w := ⟨fun i a g => (by cases g), fun i _ => rfl, fun i a x g => (by cases g), fun i x g => (by cases g), fun i j a b x y g => (by cases g), Ext.refl w⟩
  refine Calls.mono (Di (w0 := w) hP (M_ hP (hM w) n) (hM w) (K := fun vs w' => vs = [.bool true] ∧ Ext w w') h (fun l i g => by cases g) hr .nil fun rs s' hk ρ' w' rs' l' r' v' => ?_) ?_
  · split at hk
    · cases v' with
      | cons g g' =>
      cases g'
      cases g
      exact ⟨rfl, r'.ext⟩
    · cases hk
  · rintro e w' ⟨vs, rfl, rfl, hx⟩
    exact ⟨rfl, hx⟩
theorem Oa (P : Program) (w0 : World) : vX P w0 [] := fun _ h => by cases h
end
end Gp.Rn
end
