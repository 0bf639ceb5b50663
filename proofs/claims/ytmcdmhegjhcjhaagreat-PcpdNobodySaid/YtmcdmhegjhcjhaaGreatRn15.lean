import Derived.Test.YtmcdmhegjhcjhaaGreatRn14
/- A machine that runs closed code over named blocks: what code is to give, and what it gives where nothing is wanted. -/
namespace Gp.Rn
open Go Gp

def DR (ρ : Nm) : List Nat → List Nat → Prop
  | [], [] => True
  | i :: l, b :: m => (∃ x, ρ i = some x ∧ x.b = b) ∧ DR ρ l m
  | _, _ => False
theorem DR.mono {ρ ρ' : Nm} (hl : Le ρ ρ') : ∀ {l m : List Nat}, DR ρ l m → DR ρ' l m
  | [], [], _ => trivial
  | i :: l, b :: m, h => by
    obtain ⟨⟨x, h1, h2⟩, h3⟩ := h
    exact ⟨⟨x, hl _ _ h1, h2⟩, DR.mono hl h3⟩
  | [], _ :: _, h => h.elim
  | _ :: _, [], h => h.elim

def RR (ρ : Nm) : Option Nat → Option Nat → Prop
  | none, none => True
  | some l, some b => ∃ x, ρ l = some x ∧ x.b = b
  | _, _ => False
theorem RR.mono {ρ ρ' : Nm} (hl : Le ρ ρ') {r r' : Option Nat} (h : RR ρ r r') : RR ρ' r r' := by
  cases r <;> cases r' <;> first | exact h | exact h.elim | skip
  obtain ⟨x, h1, h2⟩ := h
  exact ⟨x, hl _ _ h1, h2⟩

/-- What a loop's body is to give. -/
def bodyD (P : Program) (i : LInfo) (env : Env) (l : Nat) (x' : DenR i.ks) (W : World) (Kb : Exit → World → Prop) : Prop :=
  den P i.nt i.assign (some l) i.x (encP i.ps (encR i.ks x') ++ env) [] W fun e env1 _ W1 => match e with
    | .normal => W1.heap[l]? = W.heap[l]? ∧ den P i.nt i.body (some l) i.y env1 [] (busyW W1 l) fun e _ _ W2 => Kb e W2
    | _ => False

def YS (P : Program) (x : Loc) (i : LInfo) (env : Env) : Prop := ∀ (xs : DenR i.ks) (W : World) (p : Option Code) (R : Bool → World → Prop), x.L .ready p W →
  bodyD P i env x.b xs W (fun e W' => x.L .busy p W' ∧ ∃ j, jumpOf e = some j ∧ R (isNormal e) (setLoop W' x.b (if isNormal e then .ready else .done) j)) → YieldP P x.b (encR i.ks xs) W R

def GR (P : Program) (ρ : Nm) (Γ : LCx) : Prop := ∀ l i, Γ.get l = some i → ∃ x env, ρ l = some x ∧ ER ρ i.env env ∧ YS P x i env
theorem GR.mono {P : Program} {ρ ρ' : Nm} {Γ : LCx} (h : GR P ρ Γ) (hl : Le ρ ρ') : GR P ρ' Γ := fun l i g => by
  obtain ⟨x, env, h1, h2, h3⟩ := h l i g
  exact ⟨x, env, hl _ _ h1, h2.mono hl, h3⟩

def KCk (w0 : World) (ρ : Nm) (k : KC) (K : Exit → Env → List Nat → World → Prop) : Prop :=
  ∀ e ae ads s', k e ae ads s' = true → ∀ ρ' w' env' ds', Le ρ ρ' → Rel w0 ρ' s' w' → ER ρ' ae env' → DR ρ' ads ds' → K e env' ds' w'
theorem KCk.mono {w0 : World} {ρ ρ' : Nm} {k : KC} {K : Exit → Env → List Nat → World → Prop} (h : KCk w0 ρ k K) (hl : Le ρ ρ') : KCk w0 ρ' k K :=
  fun e ae ads s' hk ρ1 w' env' ds' l1 => h e ae ads s' hk ρ1 w' env' ds' (hl.trans l1)

/-- What the machine is to give. -/
def CodeOk (P : Program) (w0 : World) (prev : RunT) : Prop := ∀ nt c r r' an ae ads Γ s k, prev nt c r an ae ads Γ s k = true → ∀ ρ w env ds K, Rel w0 ρ s w → ER ρ ae env → DR ρ ads ds → GR P ρ Γ → RR ρ r r' → KCk w0 ρ k K → den P nt c r' an env ds w K
def CodeF (prev : RunT) : Prop := ∀ nt c r an ae ads Γ s, prev nt c r an ae ads Γ s (fun _ _ _ _ => false) = false

theorem closeC_f : ∀ (ds : List Nat) (s : St), closeC ds s (fun _ => false) = false
  | [], _ => rfl
  | D :: ds, s => by
    unfold closeC
    simp only [closeC_f ds, putB_f]
    split <;> rfl

section
variable (P : Program) (A : Nat → Option Ann) {prev : RunT} (hp : CodeF prev)
 include hp
theorem callC_f (Γ : LCx) (f : FuncId) (args : List AV) (s : St) : callC P A prev Γ f args s (fun _ _ => false) = false := by
  unfold callC
  split
  · split
    · rename_i fn an _ _ _ c _
      refine (congrArg (fun q => cond _ q false) ((congrArg (prev fn.ntmps c none an (argE 0 args) [] Γ s) (funext fun e => funext fun env => funext fun ds => funext fun s' => ?_)).trans (hp ..))).trans (cond_f _)
      have h2 : ∀ (rs : List ResultVar), (closeC ds s' fun s'' => match resC P rs env s'' with
          | some vs => false
          | none => false) = false := fun rs => by
          rw [show (fun s'' => (match resC P rs env s'' with
            | some vs => false
            | none => false : Bool)) = fun _ => false from funext fun s'' => by split <;> rfl]
          exact closeC_f _ _
      split <;> first | exact h2 _ | rfl
    · rfl
  · rfl

 omit hp in
theorem asgC_f (nt : Nat) : ∀ (c : Code) (an : Ann) (e : AE) (s : St), asgC P nt c an e s (fun _ _ => false) = false := by
  intro c
  induction c with
  | region id ops draw => intro an e s; unfold asgC; rw [opsC_f P cb0_f]; exact cond_f draw |>.symm ▸ by cases draw <;> rfl
  | seq a b iha ihb =>
    intro an e s
    unfold asgC
    split
    · simp only [ihb, iha]
    · rfl
  | _ => intro an e s; rfl

theorem yieldC_f (Γ : LCx) (l : Nat) (args : List AV) (s : St) : yieldC P prev Γ l args s (fun _ _ => false) = false := by
  unfold yieldC
  split
  · rename_i i p hi hl
    refine (congrArg (fun q => cond _ q false) ?_).trans (cond_f _)
    refine (congrArg (asgC P i.nt i.assign i.x (encPA i.ps args ++ i.env) s) (funext fun env1 => funext fun s1 => ?_)).trans (asgC_f P ..)
    refine (congrArg (putB s1 l (.loop .busy p)) (funext fun s2 => ?_)).trans (putB_f ..)
    refine (congrArg (prev i.nt i.body (some l) i.y env1 [] Γ s2) (funext fun e => funext fun _ => funext fun _ => funext fun s3 => ?_)).trans (hp ..)
    simp only [putB_f]
    repeat' split
    all_goals simp only [cond_f]
    all_goals (repeat' split)
    all_goals simp only [cond_f]
  · rfl

theorem cbOf_f (Γ : LCx) : CbF (cbOf P A prev Γ) := ⟨fun f args s => callC_f P A hp Γ f args s, fun l args s => yieldC_f P hp Γ l args s⟩

theorem lpIt_f (nt : Nat) (a : Code) (r : Option Nat) (x : Ann) (st : List (Nat × Kind)) (base : AE) (Γ : LCx) : ∀ (n : Nat) (l : AE) (ds : List Nat) (s : St), lpIt prev nt a r x st base Γ (fun _ _ _ _ => false) n l ds s = false
  | 0, _, _, _ => rfl
  | n + 1, l, ds, s => by
    show lpStep prev nt a r x st base Γ (fun _ _ _ _ => false) (lpIt prev nt a r x st base Γ (fun _ _ _ _ => false) n) l ds s = false
    unfold lpStep
    refine (congrArg (prev nt a r x (l ++ base) ds Γ s) (funext fun e => funext fun env' => funext fun ds' => funext fun s' => ?_)).trans (hp ..)
    split
    · split
      · exact lpIt_f nt a r x st base Γ n ..
      · rfl
    · rfl

theorem rngC_f (nt : Nat) (g : Operand) (ps : List Nat) (assign body : Code) (ks : List Shape) (x y : Ann) (env : AE) (ds : List Nat) (Γ : LCx) (m : Option Nat) (s : St) : rngC P A prev nt g ps assign body ks x y env ds Γ m s (fun _ _ _ _ => false) = false := by
  unfold rngC
  split
  · rename_i f first cap hv
    refine (congrArg (fun q => cond _ q false) ?_).trans (cond_f _)
    refine (congrArg (newB s (.loop .ready .no)) (funext fun l => funext fun s1 => ?_)).trans (newB_f ..)
    refine (congrArg (callC P A prev ((l, ⟨nt, ps, ks, x, y, assign, body, env⟩) :: Γ) f (first ++ (.yld l :: cap)) s1) (funext fun rs => funext fun s2 => ?_)).trans (callC_f P A hp ..)
    split
    · rename_i st p hg
      have : (fun (s3 : St) => (match p with
            | .no => false
            | .ret => false
            | .ex id => cond (memN id (exitsOf body)) false false : Bool)) = fun _ => false := by
        funext s3
        cases p <;> first | rfl | exact cond_f _
      cases p <;> simp only [putB_f, cond_f] <;> cases lsE st .busy <;> rfl
    · rfl
  · rfl

theorem codeC_f : CodeF (codeC P A prev) := by
  intro nt c r an ae ads Γ s
  cases c with
  | skip => rfl
  | label _ => rfl
  | ret => rfl
  | exit _ => rfl
  | region id ops draw =>
    unfold codeC
    dsimp only
    unfold regC
    rw [drawC_f P (cbOf_f P A hp Γ), opsC_f P (cbOf_f P A hp Γ), cond_f, cond_f]
  | seq a b =>
    show seqC prev nt a b r an ae ads Γ s _ = false
    unfold seqC
    split
    · rename_i x y
      refine (congrArg (prev nt a r x ae ads Γ s) (funext fun e => funext fun env' => funext fun ds' => funext fun s' => ?_)).trans (hp ..)
      unfold seqK
      split
      · exact hp ..
      · rfl
    · rfl
  | cond c a b =>
    show condC prev nt c a b r an ae ads Γ s _ = false
    unfold condC
    split
    · split
      · rw [hp, hp, cond_f]
      · rfl
    · rfl
  | block id a =>
    show blkC prev nt id a r an ae ads Γ s _ = false
    unfold blkC
    split
    · rename_i x
      refine (congrArg (prev nt a r x ae ads Γ s) (funext fun e => funext fun env' => funext fun ds' => funext fun s' => ?_)).trans (hp ..)
      unfold blkK
      split
      · exact cond_f _
      · rfl
    · rfl
  | scope a =>
    show prev nt a r an ae ads Γ s (scpK _) = false
    refine (congrArg (prev nt a r an ae ads Γ s) (funext fun e => funext fun env' => funext fun ds' => funext fun s' => ?_)).trans (hp ..)
    unfold scpK
    split <;> rfl
  | loop a =>
    show lpC prev nt a r an ae ads Γ s _ = false
    unfold lpC
    split
    · split
      · exact lpIt_f hp ..
      · rfl
    · rfl
  | rangeFunc g ps assign body =>
    show rfC P A prev nt g ps.toList assign body r an ae ads Γ s _ = false
    unfold rfC
    simp only [rngC_f P A hp, newB_f]
    repeat' split
    all_goals simp only [cond_f]
    all_goals (repeat' split)
    all_goals simp only [cond_f]
  | _ => rfl
end

theorem run_f (P : Program) (A : Nat → Option Ann) : ∀ n, CodeF (run P A n)
  | 0 => fun _ _ _ _ _ _ _ _ => rfl
  | n + 1 => codeC_f P A (run_f P A n)
end Gp.Rn
