import Derived.Test.YtmcdmhegjhcjhaaGreatOps5
/- From 'opDen' to the kit's rule for one operation; environments. -/
namespace Gp
open Go

def Fr (r : Option Nat) : Fence := { Fence.wide with round := r }

def Agr (env : Env) (a : Act) : Prop := ∀ s v, env.get s = some v → a.tmps[s]? = some v

theorem get_cons (s : Nat) (v : Value) (r : Env) (t : Nat) : Env.get ((s, v) :: r) t = if s = t then some v else Env.get r t := by
  simp only [Env.get]
  by_cases h : s = t
  · subst h; simp
  · have : Nat.beq s t = false := by cases hb : Nat.beq s t; rfl; exact absurd (Nat.eq_of_beq_eq_true hb) h
    simp [this, h]

theorem put_tmps_size (a : Act) (d : Option Nat) (v : Value) : (a.put d v).tmps.size = a.tmps.size := by cases d <;> simp [Act.put]
theorem put_defers' (a : Act) (d : Option Nat) (v : Value) : (a.put d v).defers = a.defers := by cases d <;> rfl

theorem put_get (a : Act) (d : Option Nat) (v : Value) (s : Nat) : (a.put d v).tmps[s]? = if d = some s ∧ s < a.tmps.size then some v else a.tmps[s]? := by
  cases d with
  | none => simp [Act.put]
  | some d =>
    simp only [Act.put, Array.getElem?_setIfInBounds, Option.some.injEq]
    by_cases h : d = s
    · subst h
      by_cases h2 : d < a.tmps.size
      · simp [h2]
      · simp [h2]
    · simp [h]

theorem Agr.put {env : Env} {a : Act} {d : Option Nat} {v : Value} (h : Agr env a) (hd : dstOk a.tmps.size d = true) : Agr (env.put d v) (a.put d v) := by
  intro s u hs
  rw [put_get]
  cases d with
  | none => simpa using h s u hs
  | some d =>
    simp only [Env.put] at hs
    rw [get_cons] at hs
    have hlt : d < a.tmps.size := by simp only [dstOk, Nat.blt_eq] at hd; exact hd
    by_cases e : d = s
    · subst e; simp at hs; simp [hlt, hs]
    · rw [if_neg e] at hs
      have : ¬ (some d = some s ∧ s < a.tmps.size) := fun x => e (by simpa using x.1)
      rw [if_neg this]
      exact h s u hs

theorem defd_mem {env : Env} : ∀ (l : List Operand), defd env l = true → ∀ x ∈ l, (evO env x).isSome = true := by
  intro l
  induction l with
  | nil => intro _ x hx; cases hx
  | cons y l ih =>
    intro h x hx
    simp only [defd, Bool.and_eq_true] at h
    cases hx with
    | head => exact h.1
    | tail _ hx => exact ih h.2 x hx

theorem ev_eq {env : Env} {a : Act} (h : Agr env a) {x : Operand} (hx : (evO env x).isSome = true) : ev env x = a.eval x := by
  unfold ev
  cases x with
  | tmp t =>
    simp only [evO] at hx ⊢
    cases hg : env.get t with
    | none => simp [hg] at hx
    | some v =>
      have := h t v hg
      simp [Act.eval, Array.getD_eq_getD_getElem?, this]
  | const v => rfl
  | global g => rfl
  | func f => rfl

theorem not_select {P : Program} {o : Oper} {ρ : Operand → Value} {w : World} {K : Value → World → Prop} (h : opDen P o ρ w K) : (∀ cs b, o.op ≠ .select cs b) ∧ (∀ c, o.op ≠ .defer c) := by
  constructor
  · intro cs b e; simp only [opDen, e] at h
  · intro c e; simp only [opDen, e] at h

theorem ran_wpIn {P : Program} {o : Oper} {a : Act} {w : World} {K : Value → World → Prop} {r : Option Nat} {n : Nat} {next : Act → World → Prop} {Q : Exit → Act → World → Prop}
    (hd : ∀ c, o.op ≠ .defer c) (h : Ran P K ((execOp a.eval o).run P w)) (hk : ∀ v w', K v w' → next (a.put o.dst v) w') : o.wpIn (Fr r) n P a w next Q := by
  refine ⟨fun _ _ => trivial, ?_⟩
  rw [Oper.semAt_eq _ _ _ hd]
  generalize (execOp a.eval o).run P w = res at h
  cases res with
  | halt x w' => exact h.elim
  | ok x w' =>
    cases x <;> simp only [Ran] at h <;> simp only [Oper.uponIn]
    case value v => exact hk _ _ h
    case skip => exact hk _ _ h
    case enter f args =>
      refine ⟨fun hx => by simp [Fr, Fence.wide] at hx, ?_⟩
      have : CallsIn Fence.wide (n - 1) P f args w' fun e w'' => ∃ v, e = .returned v ∧ K v w'' := callsIn_wide.2 h
      refine CallsIn.mono (F := Fr r) this fun e w'' hx => ?_
      obtain ⟨v, rfl, hv⟩ := hx
      exact hk _ _ hv
    case round l f tmps assign body =>
      refine ⟨fun hx => by simp [Fr, Fence.wide] at hx, ?_⟩
      refine RoundIn.mono (F := Fr r) (n := n - 1) ⟨h.1, fun c cs _ => h.2 c cs (room_wide _)⟩ fun e w'' hx => ?_
      obtain ⟨v, rfl, hv⟩ := hx
      exact hk _ _ hv
    all_goals exact h.elim

theorem split_elim {g : Bool} {v : Value} {K : Value → Prop} (h : split g v K) : K v := by
  unfold split at h
  cases g with
  | false => exact h
  | true =>
    simp only [cond_true] at h
    cases v <;> first | exact h | skip
    rename_i b
    cases b <;> exact h

/-- What holds behind an operation, of the activation and of the environment. -/
structure Aft (nt : Nat) (ds : List Deferred) (ws : List Nat) (a0 : Act) (env : Env) (a : Act) : Prop where
  agr : Agr env a
  size : a.tmps.size = nt
  defers : a.defers = ds
  same : ∀ s, s ∉ ws → a.tmps[s]? = a0.tmps[s]?

theorem yielded_get {ops : Array Oper} {a : Act} {env : Env} {j s : Nat} (ha : ∀ u, env.get s = some u → a.tmps[s]? = some u) {t : Bool} (h1 : (ops.toList[j]?).bind (·.dst) = some s) (h2 : env.get s = some (.bool t)) :
    yielded ops a.tmps j = some t := by
  have h1' : (ops[j]?).bind (·.dst) = some s := by simpa using h1
  have := ha _ h2
  simp [yielded, h1', this]

/-- Agreement on what an operation looks at. -/
def AgrOn (env : Env) (a : Act) (ss : List Nat) : Prop := ∀ s ∈ ss, ∀ u, env.get s = some u → a.tmps[s]? = some u

theorem Agr.on {env : Env} {a : Act} (h : Agr env a) (ss : List Nat) : AgrOn env a ss := fun s _ u hu => h s u hu

theorem ev_eq_on {env : Env} {a : Act} {ss : List Nat} (h : AgrOn env a ss) {x : Operand} (hm : ∀ t, x = .tmp t → t ∈ ss) (hx : (evO env x).isSome = true) : ev env x = a.eval x := by
  unfold ev
  cases x with
  | tmp t =>
    simp only [evO] at hx ⊢
    cases hg : env.get t with
    | none => simp [hg] at hx
    | some v =>
      have := h t (hm t rfl) v hg
      simp [Act.eval, Array.getD_eq_getD_getElem?, this]
  | const v => rfl
  | global g => rfl
  | func f => rfl

theorem looks_operand {ops : Array Oper} {o : Oper} {t : Nat} (h : Operand.tmp t ∈ o.op.operands.toList) : t ∈ o.looksAt ops :=
  List.mem_append_left _ (List.mem_filterMap.2 ⟨.tmp t, h, rfl⟩)

theorem looks_guard {ops : Array Oper} {o : Oper} {j s : Nat} {want : Bool} (hg : o.guard = some (j, want)) (hs : (ops.toList[j]?).bind (·.dst) = some s) : s ∈ o.looksAt ops := by
  refine List.mem_append_right _ ?_
  have h1' : (ops[j]?).bind (·.dst) = some s := by simpa using hs
  simp [hg, h1']

theorem execDen_sound {P : Program} (hP : POk P) {nt : Nat} {o : Oper} {g : Bool} {env : Env} {w : World} {K : Env → World → Prop} {a : Act} {r : Option Nat} {n : Nat}
    {next : Act → World → Prop} {Q : Exit → Act → World → Prop} {ops : Array Oper} (h : execDen P nt o g env w K) (ha : AgrOn env a (o.looksAt ops))
    (hk : ∀ v w', K (env.put o.dst v) w' → dstOk nt o.dst = true → next (a.put o.dst v) w') : o.wpIn (Fr r) n P a w next Q := by
  unfold execDen at h
  cases hb : (defd env o.op.operands.toList && dstOk nt o.dst) with
  | false => rw [hb] at h; exact h.elim
  | true =>
    rw [hb] at h
    simp only [cond_true] at h
    simp only [Bool.and_eq_true] at hb
    have hcongr : execOp a.eval o = execOp (ev env) o := (execOp_congr o (not_select h).1 fun x hx => ev_eq_on ha (fun t e => looks_operand (by subst e; simpa using hx)) (defd_mem _ hb.1 x (by simpa using hx))).symm
    have hr := opDen_sound hP (fun f => rfl) h
    rw [← hcongr] at hr
    exact ran_wpIn (not_select h).2 hr fun v w' hv => hk v w' (split_elim hv) hb.2

theorem stepDen_sound {P : Program} (hP : POk P) {nt : Nat} {ops : Array Oper} {i : Nat} {o : Oper} {g : Bool} {env : Env} {w : World} {K : Env → World → Prop} {a : Act} {r : Option Nat} {n : Nat}
    {next : Act → World → Prop} {Q : Exit → Act → World → Prop} (ho : ops[i]? = some o) (h : stepDen P nt ops.toList o g env w K) (ha : AgrOn env a (o.looksAt ops))
    (hk : ∀ v w', K (env.put o.dst v) w' → dstOk nt o.dst = true → next (a.put o.dst v) w') : wpOpIn (Fr r) n P ops Q i next a w := by
  unfold wpOpIn
  simp only [ho]
  unfold stepDen at h
  cases hg : o.guard with
  | none =>
    simp only [hg] at h
    have hw : Region.wanted o (yielded ops a.tmps) = true := by simp [Region.wanted, hg]
    rw [if_pos hw]
    exact execDen_sound hP h ha hk
  | some jw =>
    obtain ⟨j, want⟩ := jw
    simp only [hg] at h
    cases hs : (ops.toList[j]?).bind (·.dst) with
    | none => simp only [hs] at h
    | some s =>
      simp only [hs] at h
      split at h
      · rename_i t ht
        have hy := yielded_get (ha _ (looks_guard hg hs)) hs ht
        cases hb : (t == want) with
        | true =>
          rw [hb] at h
          have hw : Region.wanted o (yielded ops a.tmps) = true := by
            have : t = want := by simpa using hb
            simp [Region.wanted, hg, hy, this]
          rw [if_pos hw]
          exact execDen_sound hP h ha hk
        | false =>
          rw [hb] at h
          have hw : ¬ (Region.wanted o (yielded ops a.tmps) = true) := by
            have : t ≠ want := by intro e; simp [e] at hb
            simp [Region.wanted, hg, hy, this]
          rw [if_neg hw]
          refine ⟨fun _ _ => trivial, ?_⟩
          simp only [cond_false] at h
          cases hd : dstOk nt o.dst with
          | false => rw [hd] at h; exact h.elim
          | true => rw [hd] at h; exact hk _ _ h hd
      · rename_i vs ht
        have hw : ¬ (Region.wanted o (yielded ops a.tmps) = true) := by
          have h1' : (ops[j]?).bind (·.dst) = some s := by simpa using hs
          have := (ha _ (looks_guard hg hs)) _ ht
          simp [Region.wanted, hg, yielded, h1', this]
        rw [if_neg hw]
        refine ⟨fun _ _ => trivial, ?_⟩
        cases hd : dstOk nt o.dst with
        | false => rw [hd] at h; exact h.elim
        | true => rw [hd] at h; exact hk _ _ h hd
      · exact h.elim

def dsts (ops : List Oper) : List Nat := ops.filterMap (·.dst)

theorem Aft.put {nt : Nat} {ds : List Deferred} {ws : List Nat} {a0 : Act} {env : Env} {a : Act} {d : Option Nat} {v : Value} (h : Aft nt ds ws a0 env a) (hd : dstOk nt d = true) (hw : ∀ s, d = some s → s ∈ ws) :
    Aft nt ds ws a0 (env.put d v) (a.put d v) := by
  refine ⟨h.agr.put (by rw [h.size]; exact hd), by rw [put_tmps_size]; exact h.size, by rw [put_defers']; exact h.defers, fun s hs => ?_⟩
  rw [put_get]
  have : ¬ (d = some s ∧ s < a.tmps.size) := fun x => hs (hw s x.1)
  rw [if_neg this]
  exact h.same s hs

theorem opsDen_sound {P : Program} (hP : POk P) {nt : Nat} {ops : Array Oper} {K : Env → World → Prop} {r : Option Nat} {n : Nat} {Q : Exit → Act → World → Prop} {ds : List Deferred} {ws : List Nat} {a0 : Act}
    (hws : ∀ d ∈ dsts ops.toList, d ∈ ws) (hQ : ∀ env a w, Aft nt ds ws a0 env a → K env w → Q .normal a w) :
    ∀ (l : List Oper) (i : Nat) (env : Env) (a : Act) (w : World), ops.toList.drop i = l → Aft nt ds ws a0 env a → opsDen P nt ops.toList i l env w K →
      wpOpsIn (Fr r) n P ops Q (List.range' i l.length) a w := by
  intro l
  induction l with
  | nil => intro i env a w _ ha h; exact hQ _ _ _ ha h
  | cons o l ih =>
    intro i env a w hl ha h
    have ho : ops[i]? = some o := by
      have := congrArg (fun l : List Oper => l[0]?) hl
      simpa using this
    rw [List.length_cons, List.range'_succ, wpOpsIn_cons]
    have hmem : o ∈ ops.toList := by
      have : o ∈ ops.toList.drop i := by rw [hl]; simp
      exact List.mem_of_mem_drop this
    refine stepDen_sound hP ho h (ha.agr.on _) fun v w' hv hd => ?_
    refine ih (i + 1) _ _ _ ?_ (ha.put hd fun s hs => hws s (List.mem_filterMap.2 ⟨o, hmem, hs⟩)) hv
    have := congrArg List.tail hl
    simpa [List.tail_drop] using this
end Gp
