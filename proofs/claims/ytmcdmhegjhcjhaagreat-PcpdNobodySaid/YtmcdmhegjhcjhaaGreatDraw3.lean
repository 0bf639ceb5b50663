import Derived.Test.YtmcdmhegjhcjhaaGreatDraw2
/- What does not touch the world yields the same in every world. -/
namespace Gp
open Go

theorem dec_intro {k : Kind} {x : k.T} {φ : k.T → Prop} (h : φ x) : k.dec (k.enc x) φ := by
  cases k with
  | int k =>
    have e : ikEq k k = true := by cases k <;> rfl
    show cond (ikEq k k) (φ x) False
    rw [e]; exact h
  | _ => exact h

def Lin {α : Type} (F : (α → Prop) → Prop) : Prop := ∀ φ, F φ → ∃ v, φ v ∧ ∀ φ' : α → Prop, φ' v → F φ'

theorem lin_intBin (op : BinOp) (k : IntKind) (a b : Int) : Lin (intBin op k a b) := by
  intro φ h
  cases op <;> simp only [intBin] at h ⊢ <;> first
    | exact ⟨_, h, fun _ h' => h'⟩
    | exact ⟨_, h.2, fun _ h' => ⟨h.1, h'⟩⟩
    | exact h.elim

theorem lin_strBin (op : BinOp) (a b : ByteArray) : Lin (strBin op a b) := by
  intro φ h
  cases op <;> simp only [strBin] at h ⊢ <;> first
    | exact ⟨_, h, fun _ h' => h'⟩
    | exact ⟨_, h.2, fun _ h' => ⟨h.1, h'⟩⟩
    | exact h.elim

theorem lin_binDen (op : BinOp) (x y : Value) : Lin (binDen op x y) := by
  intro φ h
  cases x with
  | int k n =>
    cases y with
    | int k' m =>
      by_cases h1 : op = .shl
      · subst h1; exact ⟨_, h.2, fun _ h' => ⟨h.1, h'⟩⟩
      · by_cases h2 : op = .shr
        · subst h2; exact ⟨_, h.2, fun _ h' => ⟨h.1, h'⟩⟩
        · have e : ∀ φ, binDen op (.int k n) (.int k' m) φ = cond (ikEq k k') (intBin op k n m φ) False := by
            intro φ; cases op <;> first | rfl | exact absurd rfl h1 | exact absurd rfl h2
          rw [e] at h
          cases hk : ikEq k k' with
          | false => rw [hk] at h; exact h.elim
          | true =>
            rw [hk] at h
            obtain ⟨v, hv, h'⟩ := lin_intBin op k n m φ h
            exact ⟨v, hv, fun φ' hφ => by rw [e, hk]; exact h' φ' hφ⟩
    | _ => cases op <;> exact h.elim
  | string s =>
    cases y with
    | string s' =>
      have e : ∀ φ, binDen op (.string s) (.string s') φ = strBin op s s' φ := by intro φ; cases op <;> rfl
      rw [e] at h
      obtain ⟨v, hv, h'⟩ := lin_strBin op s s' φ h
      exact ⟨v, hv, fun φ' hφ => by rw [e]; exact h' φ' hφ⟩
    | _ => cases op <;> exact h.elim
  | _ => cases op <;> exact h.elim

theorem lin_eqDen (d : TypeDesc) (x y : Value) : Lin (eqDen d x y) := by
  intro φ h
  unfold eqDen at h ⊢
  split at h <;> first | exact ⟨_, h, fun _ h' => h'⟩ | exact h.elim

theorem lin_binOpDen (P : Program) (op : BinOp) (t : TypeId) (x y : Value) : Lin (binOpDen P op t x y) := by
  intro φ h
  unfold binOpDen at h ⊢
  split at h
  · exact lin_binDen _ _ _ φ h
  · exact lin_binDen _ _ _ φ h
  · split at h
    case h_2 => exact h.elim
    rename_i s ys ho
    cases hg : P.eqGuardType P.depth t with
    | true => rw [hg] at h; exact h.elim
    | false =>
      simp only [hg, cond_false] at h ⊢
      split at h
      case h_2 => exact h.elim
      rename_i r hr
      exact ⟨_, h, fun φ' hφ => by simpa only [hr] using hφ⟩
  · split at h
    · obtain ⟨v, hv, h'⟩ := lin_eqDen _ _ _ _ h
      exact ⟨_, hv, fun φ' hφ => h' (fun b => φ' (.bool b)) hφ⟩
    · obtain ⟨v, hv, h'⟩ := lin_eqDen _ _ _ _ h
      exact ⟨_, hv, fun φ' hφ => h' (fun b => φ' (.bool !b)) hφ⟩
    · exact h.elim

theorem lin_unOpDen (op : UnOp) (x : Value) : Lin (unOpDen op x) := by
  intro φ h
  unfold unOpDen at h ⊢
  split at h <;> first | exact ⟨_, h, fun _ h' => h'⟩ | exact h.elim

theorem lin_optI {α : Type} (ρ : Operand → Value) (x : Option Operand) (d : Int) (F : Int → (α → Prop) → Prop) (hF : ∀ i, Lin (F i)) : Lin (fun φ => optI ρ x d fun i => F i φ) := by
  intro φ h
  unfold optI at h ⊢
  split at h
  · exact hF _ φ h
  · split at h
    · exact hF _ φ h
    · exact h.elim

theorem lin_sliceDen (P : Program) (t : TypeId) (x : Value) (ρ : Operand → Value) (lo hi mx : Option Operand) : Lin (sliceDen P t x ρ lo hi mx) := by
  intro φ h
  unfold sliceDen at h ⊢
  split at h
  · split at h
    · exact lin_optI ρ lo 0 (fun l (φ : Value → Prop) => optI ρ hi _ fun h => SubStr _ l h fun s' => φ (.string s')) (fun l => lin_optI ρ hi _ (fun h (φ : Value → Prop) => SubStr _ l h fun s' => φ (.string s'))
        fun h φ hh => ⟨_, hh.2.2.2, fun _ h' => ⟨hh.1, hh.2.1, hh.2.2.1, h'⟩⟩) φ h
    · exact h.elim
  · split at h
    · split at h
      · exact lin_optI ρ lo 0 (fun l φ => optI ρ hi _ fun h => SubSl _ _ l h fun s' => φ s'.v) (fun l => lin_optI ρ hi _ (fun h φ => SubSl _ _ l h fun s' => φ s'.v)
          fun h φ hh => ⟨_, hh.2.2.2, fun _ h' => ⟨hh.1, hh.2.1, hh.2.2.1, h'⟩⟩) φ h
      · split at h
        · exact lin_optI ρ lo 0 (fun l φ => optI ρ _ 0 fun h => optI ρ _ 0 fun m => SubSl3 _ _ l h m fun s' => φ s'.v) (fun l => lin_optI ρ _ 0 (fun h φ => optI ρ _ 0 fun m => SubSl3 _ _ l h m fun s' => φ s'.v)
            fun h => lin_optI ρ _ 0 (fun m φ => SubSl3 _ _ l h m fun s' => φ s'.v)
            fun m φ hh => ⟨_, hh.2.2.2.2, fun _ h' => ⟨hh.1, hh.2.1, hh.2.2.1, hh.2.2.2.1, h'⟩⟩) φ h
        · exact h.elim
    · exact h.elim
  · split at h
    · split at h
      · exact lin_optI ρ lo 0 (fun l φ => optI ρ hi _ fun h => SubArr _ _ _ l h fun s' => φ s'.v) (fun l => lin_optI ρ hi _ (fun h φ => SubArr _ _ _ l h fun s' => φ s'.v)
          fun h φ hh => ⟨_, hh.2.2.2, fun _ h' => ⟨hh.1, hh.2.1, hh.2.2.1, h'⟩⟩) φ h
      · exact h.elim
    · exact h.elim
  · exact h.elim

theorem lin_partOf (d : TypeDesc) (size off : Nat) (cs : List Value) : Lin (partOf d size off cs) := by
  intro φ h
  unfold partOf at h ⊢
  cases hg : isAggD d with
  | true => simp only [hg, cond_true] at h ⊢; exact ⟨_, h, fun _ h' => h'⟩
  | false =>
    simp only [hg, cond_false] at h ⊢
    split at h
    · exact ⟨_, h, fun _ h' => h'⟩
    · exact h.elim

theorem lin_foldMax (mx : Bool) : ∀ (r : List Value) (x : Int) (k : IntKind), Lin (foldMax mx x r k) := by
  intro r
  induction r with
  | nil => exact fun x k φ h => ⟨_, h, fun _ h' => h'⟩
  | cons y r ih =>
    intro x k φ h
    cases y with
    | int ky y => exact ih _ _ φ h
    | _ => exact h.elim

theorem lin_convDen (P : Program) (s d : TypeId) (x : Value) : Lin (convDen P s d x) := by
  intro φ h
  unfold convDen at h ⊢
  split at h <;> first | exact ⟨_, h, fun _ h' => h'⟩ | exact h.elim

theorem pure_builtin {P : Program} {b : Builtin} {ts : List TypeId} {args : List Value} {w : World} {K : Value → World → Prop}
    (hb : (b = .len ∧ ∃ t, ts = [t] ∧ ∃ d, P.underlying t = some d ∧ (d = .string ∨ (∃ e, d = .slice e) ∨ ∃ n e, d = .array n e)) ∨ b = .cap ∨ b = .max ∨ b = .min) (h : builtinDen P b ts args w K) :
    ∃ v, K v w ∧ ∀ (w' : World) (K' : Value → World → Prop), K' v w' → builtinDen P b ts args w' K' := by
  rcases hb with ⟨rfl, t, rfl, d, hd, hk⟩ | rfl | rfl | rfl
  · unfold builtinDen at h ⊢
    split at h <;> first | contradiction | exact h.elim | skip
    rename_i e1 e2
    cases e2
    simp only [hd] at h ⊢
    rcases hk with rfl | ⟨e, rfl⟩ | ⟨n, e, rfl⟩
    · unfold lenDen at h ⊢
      split at h <;> first | contradiction | exact h.elim | exact ⟨_, h, fun _ _ h' => h'⟩
    · unfold lenDen at h ⊢
      split at h <;> first | contradiction | exact h.elim | exact ⟨_, h, fun _ _ h' => h'⟩
    · unfold lenDen at h ⊢
      split at h <;> first | contradiction | exact h.elim | exact ⟨_, h, fun _ _ h' => h'⟩
  · unfold builtinDen at h ⊢
    split at h <;> first | contradiction | exact h.elim | skip
    split at h
    · exact ⟨_, h, fun _ _ h' => h'⟩
    · exact h.elim
  · unfold builtinDen at h ⊢
    split at h <;> first | contradiction | exact h.elim | skip
    obtain ⟨v, hv, h'⟩ := lin_foldMax _ _ _ _ _ h
    exact ⟨v, hv, fun w' K' hk => h' (fun v => K' v w') hk⟩
  · unfold builtinDen at h ⊢
    split at h <;> first | contradiction | exact h.elim | skip
    obtain ⟨v, hv, h'⟩ := lin_foldMax _ _ _ _ _ h
    exact ⟨v, hv, fun w' K' hk => h' (fun v => K' v w') hk⟩

/-- An operation that does not touch the world. -/
theorem pure_op {P : Program} {o : Oper} {ρ : Operand → Value} {w : World} {K : Value → World → Prop} (hne : isEff P o = false) (hl : ∀ t x, o.op ≠ .load t x) (h : opDen P o ρ w K) :
    ∃ v, K v w ∧ ∀ (w' : World) (K' : Value → World → Prop), K' v w' → opDen P o ρ w' K' := by
  obtain ⟨dst, op, type, pos, after, guard⟩ := o
  cases op <;> simp only [opDen] at h ⊢ <;> simp only [isEff] at hne
  case load t x => exact absurd rfl (hl t x)
  case move x => exact ⟨_, h, fun _ _ h' => h'⟩
  case assign x => exact ⟨_, h, fun _ _ h' => h'⟩
  case pick c a b =>
    split at h
    · rename_i t hc
      cases t with
      | true => exact ⟨_, h, fun _ _ h' => h'⟩
      | false => exact ⟨_, h, fun _ _ h' => h'⟩
    · exact h.elim
  case build t ps =>
    split at h
    · split at h
      · rename_i pl hpl
        split at h
        · rename_i cs hcs
          exact ⟨_, h, fun _ _ h' => h'⟩
        · exact h.elim
      · exact h.elim
    · split at h
      · rename_i size hs
        split at h
        · rename_i cs hcs
          exact ⟨_, h, fun _ _ h' => h'⟩
        · exact h.elim
      · exact h.elim
    · exact h.elim
  case nilCheck x =>
    split at h
    · obtain ⟨a, ha, h⟩ := h
      exact ⟨_, h, fun _ _ h' => ⟨a, ha, h'⟩⟩
    · exact h.elim
  case binOp op t x y yt =>
    obtain ⟨v, hv, h'⟩ := lin_binOpDen P op t _ _ _ h
    exact ⟨v, hv, fun w' K' hk => h' (fun v => K' v w') hk⟩
  case unOp op t x =>
    obtain ⟨v, hv, h'⟩ := lin_unOpDen op _ _ h
    exact ⟨v, hv, fun w' K' hk => h' (fun v => K' v w') hk⟩
  case convert s d x =>
    split at h
    · rename_i hs hd hx
      rw [hs, hd] at hne
      cases hne
    · rename_i hs hd hx
      rw [hs, hd] at hne
      cases hne
    · rename_i hs hd hx
      rw [hs, hd] at hne
      cases hne
    · obtain ⟨v, hv, h'⟩ := lin_convDen P s d _ _ h
      exact ⟨v, hv, fun w' K' hk => h' (fun v => K' v w') hk⟩
  case makeFunc fn first cap => exact ⟨_, h, fun _ _ h' => h'⟩
  case slice t x lo hi mx =>
    obtain ⟨v, hv, h'⟩ := lin_sliceDen P t _ ρ lo hi mx _ h
    exact ⟨v, hv, fun w' K' hk => h' (fun v => K' v w') hk⟩
  case fieldAddr t x f =>
    split at h
    · rename_i fs a ht hx
      split at h
      · rename_i off size hf
        cases hb : Nat.beq size 0 with
        | true => rw [hb] at h; exact False.elim h
        | false =>
          have h2 : K (.pointer (some (a.add off))) w := by rw [hb] at h; exact h
          exact ⟨_, h2, fun _ _ h' => h'⟩
      · exact h.elim
    · exact h.elim
  case field t x f =>
    split at h
    · split at h
      · rename_i fd hf
        split at h
        · rename_i d size hd hs
          obtain ⟨v, hv, h'⟩ := lin_partOf _ _ _ _ _ h
          exact ⟨v, hv, fun w' K' hk => h' (fun v => K' v w') hk⟩
        · exact h.elim
      · exact h.elim
    · exact h.elim
  case indexAddr t x i =>
    split at h
    · split at h
      · rename_i size hs
        obtain ⟨a', h1, h2, h3, h⟩ := h
        exact ⟨_, h, fun _ _ h' => ⟨a', h1, h2, h3, h'⟩⟩
      · exact h.elim
    · split at h
      · rename_i size hs
        obtain ⟨h2, h3, h⟩ := h
        exact ⟨_, h, fun _ _ h' => ⟨h2, h3, h'⟩⟩
      · exact h.elim
    · exact h.elim
  case index t x i =>
    split at h
    · obtain ⟨b, h1, h2, h⟩ := h
      exact ⟨_, h, fun _ _ h' => ⟨b, h1, h2, h'⟩⟩
    · split at h
      · rename_i d size hd hs
        obtain ⟨h1, h2, h⟩ := h
        obtain ⟨v, hv, h'⟩ := lin_partOf _ _ _ _ _ h
        exact ⟨v, hv, fun w' K' hk => ⟨h1, h2, h' (fun v => K' v w') hk⟩⟩
      · exact h.elim
    · exact h.elim
  case extract t i =>
    split at h
    · split at h
      · rename_i v hv
        split at h
        · obtain ⟨x, hx, h⟩ := dec_elim h
          exact ⟨_, h, fun _ _ h' => by rw [hx]; exact dec_intro h'⟩
        · exact ⟨_, h, fun _ _ h' => h'⟩
      · exact h.elim
    · exact h.elim
  case call c =>
    split at h
    · rename_i f hc; simp only [hc] at hne; cases hne
    · rename_i hc; simp only [hc] at hne; cases hne
    · rename_i b hc
      simp only [hc] at hne
      refine pure_builtin ?_ h
      cases b <;> first | (cases hne; done) | (exact .inr (.inl rfl)) | (exact .inr (.inr (.inl rfl))) | (exact .inr (.inr (.inr rfl))) | skip
      refine .inl ⟨rfl, ?_⟩
      simp only at hne
      split at hne
      · rename_i t ht
        refine ⟨t, ht, ?_⟩
        split at hne <;> first | (cases hne; done) | skip
        · rename_i hd; exact ⟨_, hd, .inl rfl⟩
        · rename_i hd; exact ⟨_, hd, .inr (.inl ⟨_, rfl⟩)⟩
        · rename_i hd; exact ⟨_, hd, .inr (.inr ⟨_, _, rfl⟩)⟩
      · cases hne
    · exact h.elim
  all_goals first | exact h.elim | (cases hne; done)
end Gp
