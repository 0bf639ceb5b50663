import Derived.Test.YtfndjkoiappemaaGreatW1
import Derived.Scope
section
namespace Gp
open Go
theorem Xn {k : Kind} {x : k.T} {φ : k.T -> Prop} (h : φ x) : k.dec (k.enc x) φ := by
  cases k with
  | int k =>
    have e : EZ k k = true := by cases k <;> rfl
    show cond (EZ k k) (φ x) False
    rw [e]; exact h
  | _ => exact h
def Xk {α : Type} (F : (α -> Prop) -> Prop) : Prop := ∀ φ, F φ -> ∃ v, φ v ∧ ∀ φ' : α -> Prop, φ' v -> F φ'
theorem UR (op : BinOp) (k : IntKind) (a b : Int) : Xk (FX op k a b) := by
  intro φ h
  cases op <;> simp only [FX] at h ⊢ <;> first
    | exact ⟨_, h, fun _ h' => h'⟩
    | exact ⟨_, h.2, fun _ h' => ⟨h.1, h'⟩⟩
    | exact h.elim
theorem UD (op : BinOp) (a b : ByteArray) : Xk (E_ op a b) := by
  intro φ h
  cases op <;> simp only [E_] at h ⊢ <;> first
    | exact ⟨_, h, fun _ h' => h'⟩
    | exact ⟨_, h.2, fun _ h' => ⟨h.1, h'⟩⟩
    | exact h.elim
theorem LK (op : BinOp) (x y : Value) : Xk (ER op x y) := by
  intro φ h
  cases x with
  | int k n =>
    cases y with
    | int k' m =>
      by_cases h1 : op = .shl
      · subst h1; exact ⟨_, h.2, fun _ h' => ⟨h.1, h'⟩⟩
      · by_cases h2 : op = .shr
        · subst h2; exact ⟨_, h.2, fun _ h' => ⟨h.1, h'⟩⟩
        · have e : ∀ φ, ER op (.int k n) (.int k' m) φ = cond (EZ k k') (FX op k n m φ) False := by
            intro φ; cases op <;> first | rfl | exact absurd rfl h1 | exact absurd rfl h2
          rw [e] at h
          cases hk : EZ k k' with
          | false => rw [hk] at h; exact h.elim
          | true =>
            rw [hk] at h
            obtain ⟨v, hv, h'⟩ := UR op k n m φ h
            exact ⟨v, hv, fun φ' hφ => by rw [e, hk]; exact h' φ' hφ⟩
    | _ => cases op <;> exact h.elim
  | string s =>
    cases y with
    | string s' =>
      have e : ∀ φ, ER op (.string s) (.string s') φ = E_ op s s' φ := by intro φ; cases op <;> rfl
      rw [e] at h
      obtain ⟨v, hv, h'⟩ := UD op s s' φ h
      exact ⟨v, hv, fun φ' hφ => by rw [e]; exact h' φ' hφ⟩
    | _ => cases op <;> exact h.elim
  | _ => cases op <;> exact h.elim
theorem OM (d : TypeDesc) (x y : Value) : Xk (EL d x y) := by
  intro φ h
  unfold EL at h ⊢
  split at h <;> first | exact ⟨_, h, fun _ h' => h'⟩ | exact h.elim
theorem QG (P : Program) (op : BinOp) (t : TypeId) (x y : Value) : Xk (BO P op t x y) := by
  intro φ h
  unfold BO at h ⊢
  split at h
  · exact LK _ _ _ φ h
  · exact LK _ _ _ φ h
  · split at h
    case h_2 => exact h.elim
    rename_i s ys ho
    cases hg : P.eqGuardType P.depth t with
    | true => rw [hg] at h; exact h.elim
    | false =>
      simp only [hg, cond_false] at h ⊢
      split at h
      case h_2 => exact h.elim
      rename_i r hr
      exact ⟨_, h, fun φ' hφ => by simpa only [hr] using hφ⟩
  · split at h
    · obtain ⟨v, hv, h'⟩ := OM _ _ _ _ h
      exact ⟨_, hv, fun φ' hφ => h' (fun b => φ' (.bool b)) hφ⟩
    · obtain ⟨v, hv, h'⟩ := OM _ _ _ _ h
      exact ⟨_, hv, fun φ' hφ => h' (fun b => φ' (.bool !b)) hφ⟩
    · exact h.elim
theorem Xp (P : Program) (op : BinOp) (t : TypeId) (x y : Value) : Xk (TD P op t x y) := by
  intro φ h
  unfold TD at h ⊢
  split at h <;> first | exact ⟨_, h, fun _ h' => h'⟩ | exact h.elim
theorem TP (op : UnOp) (x : Value) : Xk (Gq op x) := by
  intro φ h
  unfold Gq at h ⊢
  split at h <;> first | exact ⟨_, h, fun _ h' => h'⟩ | exact h.elim
theorem rE {α : Type} (ρ : Operand -> Value) (x : Option Operand) (d : Int) (F : Int -> (α -> Prop) -> Prop) (hF : ∀ i, Xk (F i)) : Xk (fun φ => uK ρ x d fun i => F i φ) := by
  intro φ h
  unfold uK at h ⊢
  split at h
  · exact hF _ φ h
  · split at h
    · exact hF _ φ h
    · exact h.elim
theorem Qu (P : Program) (t : TypeId) (x : Value) (ρ : Operand -> Value) (lo hi mx : Option Operand) : Xk (CV P t x ρ lo hi mx) := by
  intro φ h
  unfold CV at h ⊢
  split at h
  · split at h
    · exact rE ρ lo 0 (fun l (φ : Value -> Prop) => uK ρ hi _ fun h => Ul _ l h fun s' => φ (.string s')) (fun l => rE ρ hi _ (fun h (φ : Value -> Prop) => Ul _ l h fun s' => φ (.string s'))
        fun h φ hh => ⟨_, hh.2.2.2, fun _ h' => ⟨hh.1, hh.2.1, hh.2.2.1, h'⟩⟩) φ h
    · exact h.elim
  · split at h
    · split at h
      · exact rE ρ lo 0 (fun l φ => uK ρ hi _ fun h => Bj _ _ l h fun s' => φ s'.v) (fun l => rE ρ hi _ (fun h φ => Bj _ _ l h fun s' => φ s'.v)
          fun h φ hh => ⟨_, hh.2.2.2, fun _ h' => ⟨hh.1, hh.2.1, hh.2.2.1, h'⟩⟩) φ h
      · split at h
        · exact rE ρ lo 0 (fun l φ => uK ρ _ 0 fun h => uK ρ _ 0 fun m => L9 _ _ l h m fun s' => φ s'.v) (fun l => rE ρ _ 0 (fun h φ => uK ρ _ 0 fun m => L9 _ _ l h m fun s' => φ s'.v)
            fun h => rE ρ _ 0 (fun m φ => L9 _ _ l h m fun s' => φ s'.v)
            fun m φ hh => ⟨_, hh.2.2.2.2, fun _ h' => ⟨hh.1, hh.2.1, hh.2.2.1, hh.2.2.2.1, h'⟩⟩) φ h
        · exact h.elim
    · exact h.elim
  · split at h
    · split at h
      · exact rE ρ lo 0 (fun l φ => uK ρ hi _ fun h => oG _ _ _ l h fun s' => φ s'.v) (fun l => rE ρ hi _ (fun h φ => oG _ _ _ l h fun s' => φ s'.v)
          fun h φ hh => ⟨_, hh.2.2.2, fun _ h' => ⟨hh.1, hh.2.1, hh.2.2.1, h'⟩⟩) φ h
      · exact h.elim
    · exact h.elim
  · exact h.elim
theorem NC (d : TypeDesc) (size off : Nat) (cs : List Value) : Xk (partOf d size off cs) := by
  intro φ h
  unfold partOf at h ⊢
  cases hg : B_ d with
  | true => simp only [hg, cond_true] at h ⊢; exact ⟨_, h, fun _ h' => h'⟩
  | false =>
    simp only [hg, cond_false] at h ⊢
    split at h
    · exact ⟨_, h, fun _ h' => h'⟩
    · exact h.elim
theorem Jt (mx : Bool) : ∀ (r : List Value) (x : Int) (k : IntKind), Xk (zJ mx x r k) := by
  intro r
  induction r with
  | nil => exact fun x k φ h => ⟨_, h, fun _ h' => h'⟩
  | cons y r ih =>
    intro x k φ h
    cases y with
    | int ky y => exact ih _ _ φ h
    | _ => exact h.elim
theorem TQ (P : Program) (s d : TypeId) (x : Value) : Xk (Ky P s d x) := by
  intro φ h
  unfold Ky at h ⊢
  split at h <;> first | exact ⟨_, h, fun _ h' => h'⟩ | exact h.elim
theorem Pz {P : Program} {b : Builtin} {ts : List TypeId} {args : List Value} {w : World} {K : Value -> World -> Prop}
    (hb : (b = .len ∧ ∃ t, ts = [t] ∧ ∃ d, P.underlying t = some d ∧ (d = .string ∨ (∃ e, d = .slice e) ∨ ∃ n e, d = .array n e)) ∨ b = .cap ∨ b = .max ∨ b = .min) (h : kT P b ts args w K) :
    ∃ v, K v w ∧ ∀ (w' : World) (K' : Value -> World -> Prop), K' v w' -> kT P b ts args w' K' := by
  rcases hb with ⟨rfl, t, rfl, d, hd, hk⟩ | rfl | rfl | rfl
  · unfold kT at h ⊢
    split at h <;> first | contradiction | exact h.elim | skip
    rename_i e1 e2
    cases e2
    simp only [hd] at h ⊢
    rcases hk with rfl | ⟨e, rfl⟩ | ⟨n, e, rfl⟩
    · unfold I5 at h ⊢
      split at h <;> first | contradiction | exact h.elim | exact ⟨_, h, fun _ _ h' => h'⟩
    · unfold I5 at h ⊢
      split at h <;> first | contradiction | exact h.elim | exact ⟨_, h, fun _ _ h' => h'⟩
    · unfold I5 at h ⊢
      split at h <;> first | contradiction | exact h.elim | exact ⟨_, h, fun _ _ h' => h'⟩
  · unfold kT at h ⊢
    split at h <;> first | contradiction | exact h.elim | skip
    split at h
    · exact ⟨_, h, fun _ _ h' => h'⟩
    · exact h.elim
  · unfold kT at h ⊢
    split at h <;> first | contradiction | exact h.elim | skip
    obtain ⟨v, hv, h'⟩ := Jt _ _ _ _ _ h
    exact ⟨v, hv, fun w' K' hk => h' (fun v => K' v w') hk⟩
  · unfold kT at h ⊢
    split at h <;> first | contradiction | exact h.elim | skip
    obtain ⟨v, hv, h'⟩ := Jt _ _ _ _ _ h
    exact ⟨v, hv, fun w' K' hk => h' (fun v => K' v w') hk⟩
theorem Zr {P : Program} {o : Oper} {ρ : Operand -> Value} {w : World} {K : Value -> World -> Prop} (hne : vY P o = false) (hl : ∀ t x, o.op ≠ .load t x) (h : uq P o ρ w K) :
    ∃ v, K v w ∧ ∀ (w' : World) (K' : Value -> World -> Prop), K' v w' -> uq P o ρ w' K' := by
  obtain ⟨dst, op, type, pos, after, guard⟩ := o
  cases op <;> simp only [uq] at h ⊢ <;> simp only [vY] at hne
  case load t x => exact absurd rfl (hl t x)
  case move x => exact ⟨_, h, fun _ _ h' => h'⟩
  case assign x => exact ⟨_, h, fun _ _ h' => h'⟩
  case pick c a b =>
    split at h
    · rename_i t hc
      cases t with
      | true => exact ⟨_, h, fun _ _ h' => h'⟩
      | false => exact ⟨_, h, fun _ _ h' => h'⟩
    · exact h.elim
  case build t ps =>
    split at h
    · split at h
      · rename_i pl hpl
        split at h
        · rename_i cs hcs
          exact ⟨_, h, fun _ _ h' => h'⟩
        · exact h.elim
      · exact h.elim
    · split at h
      · rename_i size hs
        split at h
        · rename_i cs hcs
          exact ⟨_, h, fun _ _ h' => h'⟩
        · exact h.elim
      · exact h.elim
    · exact h.elim
  case nilCheck x =>
    split at h
    · obtain ⟨a, ha, h⟩ := h
      exact ⟨_, h, fun _ _ h' => ⟨a, ha, h'⟩⟩
    · exact h.elim
  case binOp op t x y yt =>
    split at h
    · obtain ⟨v, hv, h'⟩ := Xp P op t _ _ _ h
      exact ⟨v, hv, fun w' K' hk => h' (fun v => K' v w') hk⟩
    · obtain ⟨v, hv, h'⟩ := QG P op t _ _ _ h
      exact ⟨v, hv, fun w' K' hk => h' (fun v => K' v w') hk⟩
  case unOp op t x =>
    obtain ⟨v, hv, h'⟩ := TP op _ _ h
    exact ⟨v, hv, fun w' K' hk => h' (fun v => K' v w') hk⟩
  case convert s d x =>
    split at h
    · rename_i hs hd hx
      rw [hs, hd] at hne
      cases hne
    · rename_i hs hd hx
      rw [hs, hd] at hne
      cases hne
    · rename_i hs hd hx
      rw [hs, hd] at hne
      cases hne
    · obtain ⟨v, hv, h'⟩ := TQ P s d _ _ h
      exact ⟨v, hv, fun w' K' hk => h' (fun v => K' v w') hk⟩
  case makeFunc fn first cap => exact ⟨_, h, fun _ _ h' => h'⟩
  case slice t x lo hi mx =>
    obtain ⟨v, hv, h'⟩ := Qu P t _ ρ lo hi mx _ h
    exact ⟨v, hv, fun w' K' hk => h' (fun v => K' v w') hk⟩
  case fieldAddr t x f =>
    split at h
    · rename_i fs a ht hx
      split at h
      · rename_i off size hf
        cases hb : Nat.beq size 0 with
        | true => rw [hb] at h; exact False.elim h
        | false =>
          have h2 : K (.pointer (some (a.add off))) w := by rw [hb] at h; exact h
          exact ⟨_, h2, fun _ _ h' => h'⟩
      · exact h.elim
    · exact h.elim
  case field t x f =>
    split at h
    · split at h
      · rename_i fd hf
        split at h
        · rename_i d size hd hs
          obtain ⟨v, hv, h'⟩ := NC _ _ _ _ _ h
          exact ⟨v, hv, fun w' K' hk => h' (fun v => K' v w') hk⟩
        · exact h.elim
      · exact h.elim
    · exact h.elim
  case indexAddr t x i =>
    split at h
    · split at h
      · rename_i size hs
        obtain ⟨a', h1, h2, h3, h⟩ := h
        exact ⟨_, h, fun _ _ h' => ⟨a', h1, h2, h3, h'⟩⟩
      · exact h.elim
    · split at h
      · rename_i size hs
        obtain ⟨h2, h3, h⟩ := h
        exact ⟨_, h, fun _ _ h' => ⟨h2, h3, h'⟩⟩
      · exact h.elim
    · exact h.elim
  case index t x i =>
    split at h
    · obtain ⟨b, h1, h2, h⟩ := h
      exact ⟨_, h, fun _ _ h' => ⟨b, h1, h2, h'⟩⟩
    · split at h
      · rename_i d size hd hs
        obtain ⟨h1, h2, h⟩ := h
        obtain ⟨v, hv, h'⟩ := NC _ _ _ _ _ h
        exact ⟨v, hv, fun w' K' hk => ⟨h1, h2, h' (fun v => K' v w') hk⟩⟩
      · exact h.elim
    · exact h.elim
  case extract t i =>
    split at h
    · split at h
      · rename_i v hv
        split at h
        · obtain ⟨x, hx, h⟩ := Gu h
          exact ⟨_, h, fun _ _ h' => by rw [hx]; exact Xn h'⟩
        · exact ⟨_, h, fun _ _ h' => h'⟩
      · exact h.elim
    · exact h.elim
  case call c =>
    split at h
    · rename_i f hc; simp only [hc] at hne; cases hne
    · rename_i hc; simp only [hc] at hne; cases hne
    · rename_i b hc
      simp only [hc] at hne
      refine Pz ?_ h
      cases b <;> first | (cases hne; done) | (exact .inr (.inl rfl)) | (exact .inr (.inr (.inl rfl))) | (exact .inr (.inr (.inr rfl))) | skip
      refine .inl ⟨rfl, ?_⟩
      simp only at hne
      split at hne
      · rename_i t ht
        refine ⟨t, ht, ?_⟩
        split at hne <;> first | (cases hne; done) | skip
        · rename_i hd; exact ⟨_, hd, .inl rfl⟩
        · rename_i hd; exact ⟨_, hd, .inr (.inl ⟨_, rfl⟩)⟩
        · rename_i hd; exact ⟨_, hd, .inr (.inr ⟨_, _, rfl⟩)⟩
      · cases hne
    · rename_i hc; simp only [hc] at hne; cases hne
  all_goals first | exact h.elim | (cases hne; done)
end Gp
end
section
namespace Gp
open Go
def Ex (P : Program) (r : Option Nat) (ops : Array Oper) (i : Nat) (o : Oper) (E : Env) (v : Value) (w : World) : Prop :=
  ∀ (n : Nat) (Q : Exit -> Act -> World -> Prop) (a : Act) (next : Act -> World -> Prop), TL E a (o.looksAt ops) -> next (a.put o.dst v) w -> wpOpIn (Fr r) n P ops Q i next a w
theorem Df {w : World} {a : Addr} {rest : Prop} : ∀ (vs : List Value) (i : Nat), yJ vs w a i rest -> (∀ j v, vs[j]? = some v -> w.cell? (a.add (i + j)) = some v) ∧ rest := by
  intro vs
  induction vs with
  | nil => exact fun i h => ⟨fun j v hj => by simp at hj, h⟩
  | cons v vs ih =>
    rintro i ⟨h1, h2⟩
    obtain ⟨h3, h4⟩ := ih (i + 1) h2
    refine ⟨fun j u hj => ?_, h4⟩
    cases j with
    | zero => simp at hj; subst hj; exact h1
    | succ j => rw [show i + (j + 1) = i + 1 + j by omega]; exact h3 j u (by simpa using hj)
theorem MQ {w : World} {a : Addr} {rest : Prop} : ∀ (vs : List Value) (i : Nat), yJ vs w a i rest -> yJ vs w a i True := by
  intro vs
  induction vs with
  | nil => exact fun _ _ => trivial
  | cons v vs ih => exact fun i h => ⟨h.1, ih _ h.2⟩
theorem UE {sh : Shape} {av v : Value} {w : World} {rest : Prop} (h : Ag sh av v w rest) : Ag sh av v w True ∧ rest := by
  unfold Ag at h ⊢
  split at h
  · exact ⟨⟨h.1, trivial⟩, h.2⟩
  · exact ⟨MQ _ _ h, (Df _ _ h).2⟩
  · exact h.elim
theorem Vm {pb : Nat} {w : World} {rest : Prop} : ∀ (ld : List (Nat × Shape × Value × Value)), Ua pb w ld rest ->
    rest ∧ ∀ i sh av v, (i, sh, av, v) ∈ ld -> pb.testBit i = true ∨ Ag sh av v w True := by
  intro ld
  induction ld with
  | nil => exact fun h => ⟨h, fun i sh av v hm => by cases hm⟩
  | cons x ld ih =>
    obtain ⟨i, sh, av, v⟩ := x
    intro h
    simp only [Ua] at h
    cases hb : pb.testBit i with
    | true =>
      rw [hb] at h
      obtain ⟨h1, h2⟩ := ih h
      refine ⟨h1, fun j sj bv u hm => ?_⟩
      cases hm with
      | head => exact .inl hb
      | tail _ hm => exact h2 _ _ _ _ hm
    | false =>
      rw [hb] at h
      obtain ⟨h0, h⟩ := UE h
      obtain ⟨h1, h2⟩ := ih h
      refine ⟨h1, fun j sj bv u hm => ?_⟩
      cases hm with
      | head => exact .inr h0
      | tail _ hm => exact h2 _ _ _ _ hm
theorem W_ {w : World} {a : Addr} : ∀ (ks : List Kind) (i : Nat) (φ : List Value -> Prop), LdN ks w a i φ ->
    ∃ vs, φ vs ∧ (∀ j v, vs[j]? = some v -> w.cell? (a.add (i + j)) = some v) ∧
      ∀ w' : World, (∀ j v, vs[j]? = some v -> w'.cell? (a.add (i + j)) = some v) -> ∀ φ' : List Value -> Prop, φ' vs -> LdN ks w' a i φ' := by
  intro ks
  induction ks with
  | nil => exact fun i φ h => ⟨[], h, fun j v hj => by simp at hj, fun _ _ φ' h' => h'⟩
  | cons k ks ih =>
    rintro i φ ⟨x, hx, h⟩
    obtain ⟨vs, hφ, hc, hag⟩ := ih (i + 1) _ h
    refine ⟨k.enc x :: vs, hφ, fun j v hj => ?_, fun w' hw φ' h' => ?_⟩
    · cases j with
      | zero => simp at hj; subst hj; exact hx
      | succ j => rw [show i + (j + 1) = i + 1 + j by omega]; exact hc j v (by simpa using hj)
    · refine ⟨x, by simpa using hw 0 (k.enc x) (by simp), hag w' (fun j v hj => ?_) _ h'⟩
      have := hw (j + 1) v (by simpa using hj)
      rwa [show i + (j + 1) = i + 1 + j by omega] at this
theorem U_ {sh : Shape} {w : World} {a : Addr} {φ : Value -> Prop} (h : sh.ld w a φ) :
    ∃ v, φ v ∧ (∀ φ' : Value -> Prop, φ' v -> sh.ld w a φ') ∧ ∀ w', Ag sh (.pointer (some a)) v w' True -> ∀ φ' : Value -> Prop, φ' v -> sh.ld w' a φ' := by
  cases sh with
  | one k =>
    obtain ⟨x, hx, h⟩ := h
    exact ⟨_, h, fun φ' h' => ⟨x, hx, h'⟩, fun w' hs φ' h' => ⟨x, hs.1, h'⟩⟩
  | agg ks =>
    obtain ⟨vs, hφ, hc, hag⟩ := W_ ks 0 _ h
    exact ⟨_, hφ, fun φ' h' => hag w hc (fun vs => φ' (.agg ⟨vs⟩)) h', fun w' hs φ' h' => hag w' (Df _ _ hs).1 (fun vs => φ' (.agg ⟨vs⟩)) h'⟩
theorem acj {P : Program} {o : Oper} {ρ : Operand -> Value} {w : World} {K : Value -> World -> Prop} (hne : vY P o = false) (h : uq P o ρ w K) :
    ∃ v, K v w ∧ (∀ K' : Value -> World -> Prop, K' v w -> uq P o ρ w K') ∧
      ((∀ (w' : World) (K' : Value -> World -> Prop), K' v w' -> uq P o ρ w' K') ∨
       ∃ t x d sh, o.op = .load t x ∧ o.dst = some d ∧ shapeOf P t = some sh ∧ ∀ w', Ag sh (ρ x) v w' True -> ∀ K' : Value -> World -> Prop, K' v w' -> uq P o ρ w' K') := by
  by_cases hl : ∃ t x, o.op = .load t x
  · obtain ⟨t, x, ho⟩ := hl
    have hd : ∃ d, o.dst = some d := by
      simp only [vY, ho] at hne
      cases hd : o.dst with
      | none => simp [hd] at hne
      | some d => exact ⟨d, rfl⟩
    obtain ⟨d, hd⟩ := hd
    have e : ∀ w K, uq P o ρ w K = (match ρ x, shapeOf P t, dI P t with
        | .pointer (some a), some sh, some n => cond (Nat.beq sh.cells n) (sh.ld w a fun v => K v w) False
        | _, _, _ => False) := by
      intro w K; simp only [uq, ho] <;> rfl
    rw [e] at h
    split at h
    · rename_i a sh n hx hs hn
      cases hb : Nat.beq sh.cells n with
      | false => rw [hb] at h; exact h.elim
      | true =>
        rw [hb] at h
        obtain ⟨v, hv, h1, h2⟩ := U_ h
        have e' : ∀ w K, uq P o ρ w K = sh.ld w a fun v => K v w := by
          intro w K; rw [e]; simp only [hx, hs, hn, hb, cond_true]
        refine ⟨v, hv, fun K' hk => ?_, .inr ⟨t, x, d, sh, ho, hd, hs, fun w' hst K' hk => ?_⟩⟩
        · rw [e']; exact h1 (fun v => K' v w) hk
        · rw [e']; rw [hx] at hst; exact h2 w' hst (fun v => K' v w') hk
    · exact h.elim
  · obtain ⟨v, hv, h'⟩ := Zr hne (fun t x e => hl ⟨t, x, e⟩) h
    exact ⟨v, hv, fun K' hk => h' w K' hk, .inl h'⟩
theorem Zu {P : Program} (hP : OU P) {nt : Nat} {ops : Array Oper} {i : Nat} {o : Oper} {g : Bool} {env : Env} {w : World} {K : Env -> World -> Prop} (r : Option Nat)
    (ho : ops[i]? = some o) (hne : vY P o = false) (h : nM P nt ops.toList o g env w K) :
    ∃ v, oz nt o.dst = true ∧ K (env.put o.dst v) w ∧ Ex P r ops i o env v w ∧
      ((∀ w', Ex P r ops i o env v w') ∨ ∃ sh av, (∀ ld, (i, sh, av, v) ∈ Io P ops.toList i o env (env.put o.dst v) ld) ∧ ∀ w', Ag sh av v w' True -> Ex P r ops i o env v w') := by
  have run : ∀ (K' : Env -> World -> Prop), tY P nt o g env w K' -> nM P nt ops.toList o g env w K -> (∀ w' (K'' : Env -> World -> Prop), tY P nt o false env w' K'' -> nM P nt ops.toList o false env w' K'') ->
      NH ops.toList o env = true -> tY P nt o g env w K ->
      ∃ v, oz nt o.dst = true ∧ K (env.put o.dst v) w ∧ Ex P r ops i o env v w ∧
      ((∀ w', Ex P r ops i o env v w') ∨ ∃ sh av, (∀ ld, (i, sh, av, v) ∈ Io P ops.toList i o env (env.put o.dst v) ld) ∧ ∀ w', Ag sh av v w' True -> Ex P r ops i o env v w') := by
    intro _ _ _ hstep hgo h
    unfold tY at h
    cases hb : (Xm env o.op.operands.toList && oz nt o.dst) with
    | false => rw [hb] at h; exact h.elim
    | true =>
      rw [hb] at h
      simp only [cond_true] at h
      have hdst : oz nt o.dst = true := by simp only [Bool.and_eq_true] at hb; exact hb.2
      obtain ⟨v, hv, h1, h2⟩ := acj hne h
      have mk : ∀ w', (∀ K' : Value -> World -> Prop, K' v w' -> uq P o (ev env) w' K') -> Ex P r ops i o env v w' := by
        intro w' hw' n Q a next ha hn
        have hx2 : tY P nt o false env w' fun env' w'' => (∀ u, env' = env.put o.dst u -> u = v ∨ o.dst = none) ∧ w'' = w' := by
          unfold tY
          rw [hb]
          simp only [cond_true]
          refine hw' _ ?_
          simp only [split, cond_false]
          refine ⟨fun u hu => ?_, by trivial⟩
          cases hd : o.dst with
          | none => exact .inr rfl
          | some d =>
            left
            rw [hd] at hu
            simp only [Env.put, List.cons.injEq, Prod.mk.injEq, true_and, and_true] at hu
            exact hu.symm
        refine yg hP ho (hstep w' _ hx2) ha fun u w'' hu _ => ?_
        obtain ⟨hu, rfl⟩ := hu
        rcases hu u rfl with rfl | hd
        · exact hn
        · rw [hd] at hn ⊢; exact hn
      refine ⟨v, hdst, MH hv, mk w h1, ?_⟩
      rcases h2 with h2 | ⟨t, x, d, sh, e1, e2, e3, h2⟩
      · exact .inl fun w' => mk w' (h2 w')
      · refine .inr ⟨sh, ev env x, fun ld => ?_, fun w' hs => mk w' (h2 w' hs)⟩
        simp only [Io, e1, e2, hgo, cond_true, e3]
        have : ev (env.put (some d) v) (.tmp d) = v := by simp [ev, XY, Env.put, jT]
        rw [this]
        exact List.mem_cons_self ..
  unfold nM at h
  cases hg : o.guard with
  | none =>
    simp only [hg] at h
    exact run _ h (by unfold nM; simp only [hg]; exact h) (fun w' K'' hx => by unfold nM; simp only [hg]; exact hx) (by simp [NH, hg]) h
  | some jw =>
    obtain ⟨j, want⟩ := jw
    simp only [hg] at h
    cases hs : (ops.toList[j]?).bind (·.dst) with
    | none => simp only [hs] at h
    | some s =>
      simp only [hs] at h
      split at h
      · rename_i t ht
        cases hb : (t == want) with
        | true =>
          rw [hb] at h
          refine run _ h (by unfold nM; simp only [hg, hs, ht, hb]; exact h) (fun w' K'' hx => by unfold nM; simp only [hg, hs, ht, hb]; exact hx) (by simp only [NH, hg, hs, ht]; exact hb) h
        | false =>
          rw [hb] at h
          simp only [cond_false] at h
          cases hd : oz nt o.dst with
          | false => rw [hd] at h; exact h.elim
          | true =>
            rw [hd] at h
            have mk : ∀ w', Ex P r ops i o env undef w' := by
              intro w' n Q a next ha hn
              have hy := Je (ha _ (xE hg hs)) hs ht
              have hw : ¬ (Region.wanted o (yielded ops a.tmps) = true) := by
                have : t ≠ want := by intro e; simp [e] at hb
                simp [Region.wanted, hg, hy, this]
              unfold wpOpIn
              simp only [ho]
              rw [if_neg hw]
              exact ⟨fun _ _ => trivial, hn⟩
            exact ⟨undef, by first | exact hd | rfl, h, mk w, .inl mk⟩
      · rename_i vs ht
        cases hd : oz nt o.dst with
        | false => rw [hd] at h; exact h.elim
        | true =>
          rw [hd] at h
          have mk : ∀ w', Ex P r ops i o env undef w' := by
            intro w' n Q a next ha hn
            have hw : ¬ (Region.wanted o (yielded ops a.tmps) = true) := by
              have h1' : (ops[j]?).bind (·.dst) = some s := by simpa using hs
              have := (ha _ (xE hg hs)) _ ht
              simp [Region.wanted, hg, yielded, h1', this]
            unfold wpOpIn
            simp only [ho]
            rw [if_neg hw]
            exact ⟨fun _ _ => trivial, hn⟩
          exact ⟨undef, by first | exact hd | rfl, h, mk w, .inl mk⟩
      · exact h.elim
end Gp
end
section
namespace Gp
open Go
def Ql (listed : Array Bool) (i : Nat) : Prop := listed.getD i false = true
structure WE (P : Program) (r : Option Nat) (nt : Nat) (dfr : List Deferred) (ws : List Nat) (a0 : Act) (ops : Array Oper)
    (D : Nat -> Prop) (p : List Nat) (ld : List (Nat × Shape × Value × Value)) (V : Nat -> Value) (E : Nat -> Env) (env : Env) (a : Act) (w : World) : Prop where
  sub : ∀ i, D i -> i ∈ p
  lt : ∀ i ∈ p, i < ops.size
  closedP : ∀ i j, i ∈ p -> Dir ops j i -> j ∈ p
  closedD : ∀ i j, D i -> Dir ops j i -> D j
  pend : ∀ i ∈ p, ¬ D i -> ∀ o, ops[i]? = some o -> vY P o = false ∧ oz nt o.dst = true ∧ Ex P r ops i o (E i) (V i) w ∧
    ((∀ w', Ex P r ops i o (E i) (V i) w') ∨ ∃ sh av, (i, sh, av, V i) ∈ ld ∧ ∀ w', Ag sh av (V i) w' True -> Ex P r ops i o (E i) (V i) w')
  look : ∀ i ∈ p, ¬ D i -> ∀ o, ops[i]? = some o -> ∀ s ∈ o.looksAt ops, (∀ (j : Nat) (oj : Oper), ops[j]? = some oj -> oj.dst = some s -> Pre ops j i -> D j) -> ∀ u, (E i).get s = some u -> a.tmps[s]? = some u
  src : ∀ i ∈ p, ¬ D i -> ∀ (j : Nat) (oj : Oper) (s : Nat), Pre ops j i -> ops[j]? = some oj -> oj.dst = some s -> (E i).get s = some (V j)
  cur : ∀ s u, (∀ (j : Nat) (oj : Oper), j ∈ p -> ¬ D j -> ops[j]? = some oj -> oj.dst ≠ some s) -> env.get s = some u -> a.tmps[s]? = some u
  val : ∀ (j : Nat) (oj : Oper) (s : Nat), j ∈ p -> ops[j]? = some oj -> oj.dst = some s -> env.get s = some (V j)
  size : a.tmps.size = nt
  defers : a.defers = dfr
  same : ∀ s, s ∉ ws -> a.tmps[s]? = a0.tmps[s]?
theorem xM (env : Env) (d : Option Nat) (v : Value) (s : Nat) : (env.put d v).get s = if d = some s then some v else env.get s := by
  cases d with
  | none => simp [Env.put]
  | some d => simp only [Env.put, jT, Option.some.injEq]
section
variable {P : Program} {r : Option Nat} {nt : Nat} {dfr : List Deferred} {ws : List Nat} {a0 : Act} {ops : Array Oper}
theorem WE.more {D : Nat -> Prop} {p : List Nat} {ld : List (Nat × Shape × Value × Value)} {V : Nat -> Value} {E : Nat -> Env} {env : Env} {a : Act} {w : World} (hR : ROk ops)
    (hs : WE P r nt dfr ws a0 ops D p ld V E env a w) {i : Nat} {o : Oper} {v : Value} (ho : ops[i]? = some o) (hi : i ∉ p) (hne : vY P o = false) (hpre : ∀ j, Dir ops j i -> j ∈ p)
    (hd : oz nt o.dst = true) (hex : Ex P r ops i o env v w) {ld' : List (Nat × Shape × Value × Value)} (hld : ∀ x ∈ ld, x ∈ ld')
    (hag : (∀ w', Ex P r ops i o env v w') ∨ ∃ sh av, (i, sh, av, v) ∈ ld' ∧ ∀ w', Ag sh av v w' True -> Ex P r ops i o env v w') :
    WE P r nt dfr ws a0 ops D (i :: p) ld' (fun k => if k = i then v else V k) (fun k => if k = i then env else E k) (env.put o.dst v) a w := by
  have hD : ¬ D i := fun h => hi (hs.sub i h)
  have hpp : ∀ j, Pre ops j i -> j ∈ p := fun j hj => vK (D := (· ∈ p)) hs.closedP hpre hj
  have hself : ¬ Pre ops i i := fun h => hi (hpp i h)
  refine ⟨fun j hj => List.mem_cons_of_mem _ (hs.sub j hj), ?_, ?_, hs.closedD, ?_, ?_, ?_, ?_, ?_, hs.size, hs.defers, hs.same⟩
  · intro j hj
    cases hj with
    | head => exact (Array.getElem?_eq_some_iff.1 ho).1
    | tail _ hj => exact hs.lt j hj
  · intro j k hj hk
    cases hj with
    | head => exact List.mem_cons_of_mem _ (hpre k hk)
    | tail _ hj => exact List.mem_cons_of_mem _ (hs.closedP j k hj hk)
  · intro j hj hnd oj hoj
    by_cases e : j = i
    · subst e
      rw [ho] at hoj
      cases hoj
      simp only [if_true]
      exact ⟨hne, hd, hex, hag⟩
    · simp only [if_neg e]
      have hj' : j ∈ p := by cases hj with | head => exact absurd rfl e | tail _ h => exact h
      obtain ⟨h1, h2, h3, h4⟩ := hs.pend j hj' hnd oj hoj
      refine ⟨h1, h2, h3, ?_⟩
      rcases h4 with h4 | ⟨sh, av, h5, h6⟩
      · exact .inl h4
      · exact .inr ⟨sh, av, hld _ h5, h6⟩
  · intro j hj hnd oj hoj s hsl hw u hu
    by_cases e : j = i
    · subst e
      rw [ho] at hoj
      cases hoj
      simp only [if_true] at hu
      refine hs.cur s u (fun k ok hkp hkd hok hks => ?_) hu
      rcases hR.apart j k o ok s ho hok hks hsl with h | h | h
      · exact hi (h ▸ hkp)
      · exact hkd (hw k ok hok hks h)
      · exact hi (tJ (D := (· ∈ p)) hs.closedP h hkp)
    · simp only [if_neg e] at hu
      have hj' : j ∈ p := by cases hj with | head => exact absurd rfl e | tail _ h => exact h
      exact hs.look j hj' hnd oj hoj s hsl hw u hu
  · intro j hj hnd k ok s hpk hok hks
    by_cases e : j = i
    · subst e
      simp only [if_true]
      have hkp := hpp k hpk
      have hki : k ≠ j := fun h => hi (h ▸ hkp)
      rw [if_neg hki]
      exact hs.val k ok s hkp hok hks
    · simp only [if_neg e]
      have hj' : j ∈ p := by cases hj with | head => exact absurd rfl e | tail _ h => exact h
      have hkp := tJ (D := (· ∈ p)) hs.closedP hpk hj'
      have hki : k ≠ i := fun h => hi (h ▸ hkp)
      rw [if_neg hki]
      exact hs.src j hj' hnd k ok s hpk hok hks
  · intro s u hn hu
    have hds : o.dst ≠ some s := hn i o (List.mem_cons_self ..) hD ho
    rw [xM, if_neg hds] at hu
    exact hs.cur s u (fun j oj hj => hn j oj (List.mem_cons_of_mem _ hj)) hu
  · intro j oj s hj hoj hjs
    rw [xM]
    by_cases e : j = i
    · subst e
      rw [ho] at hoj
      cases hoj
      simp [hjs]
    · have hj' : j ∈ p := by cases hj with | head => exact absurd rfl e | tail _ h => exact h
      have hds : o.dst ≠ some s := fun h => e (hR.dst j i oj o s hoj ho hjs h)
      rw [if_neg hds, if_neg e]
      exact hs.val j oj s hj' hoj hjs
theorem WE.take {D : Nat -> Prop} {p : List Nat} {ld : List (Nat × Shape × Value × Value)} {V : Nat -> Value} {E : Nat -> Env} {env : Env} {a : Act} {w : World} (hR : ROk ops)
    (hs : WE P r nt dfr ws a0 ops D p ld V E env a w) {i : Nat} {o : Oper} (ho : ops[i]? = some o) (hi : i ∈ p) (hnd : ¬ D i) (hpre : ∀ j, Dir ops j i -> D j) (hws : ∀ d ∈ G9 ops.toList, d ∈ ws)
    {D' : Nat -> Prop} (hD' : ∀ k, D' k ↔ D k ∨ k = i) : WE P r nt dfr ws a0 ops D' p ld V E env (a.put o.dst (V i)) w := by
  have hpp : ∀ j, Pre ops j i -> D j := fun j hj => vK hs.closedD hpre hj
  obtain ⟨_, hd, _⟩ := hs.pend i hi hnd o ho
  have hmem : ∀ d, o.dst = some d -> d ∈ ws := fun d h => hws d (List.mem_filterMap.2 ⟨o, List.mem_of_getElem? (by simpa using ho), h⟩)
  have hnd' : ∀ k, ¬ D' k -> ¬ D k ∧ k ≠ i := fun k h => ⟨fun x => h ((hD' k).2 (.inl x)), fun x => h ((hD' k).2 (.inr x))⟩
  have hlt : ∀ d, o.dst = some d -> d < a.tmps.size := fun d h => by
    rw [h] at hd
    rw [hs.size]
    simpa [oz] using hd
  refine ⟨?_, hs.lt, hs.closedP, ?_, ?_, ?_, ?_, ?_, hs.val, by rw [yA]; exact hs.size, by rw [BA]; exact hs.defers, ?_⟩
  · intro j hj
    rcases (hD' j).1 hj with h | rfl
    · exact hs.sub j h
    · exact hi
  · intro j k hj hk
    rcases (hD' j).1 hj with h | rfl
    · exact (hD' k).2 (.inl (hs.closedD j k h hk))
    · exact (hD' k).2 (.inl (hpre k hk))
  · intro j hj hn; exact hs.pend j hj (hnd' j hn).1
  · intro j hj hn oj hoj s hsl hw u hu
    obtain ⟨hn1, hn2⟩ := hnd' j hn
    rw [xI]
    by_cases e : o.dst = some s
    · rw [if_pos ⟨e, hlt s e⟩]
      rcases hR.apart j i oj o s hoj ho e hsl with h | h | h
      · exact absurd h hn2
      · rw [hs.src j hj hn1 i o s h ho e] at hu
        exact hu
      · exact absurd (hpp j h) hn1
    · rw [if_neg (fun x => e x.1)]
      refine hs.look j hj hn1 oj hoj s hsl (fun k ok hok hks hpk => ?_) u hu
      rcases (hD' k).1 (hw k ok hok hks hpk) with h | rfl
      · exact h
      · rw [ho] at hok; cases hok; exact absurd hks e
  · intro j hj hn; exact hs.src j hj (hnd' j hn).1
  · intro s u hn hu
    rw [xI]
    by_cases e : o.dst = some s
    · rw [if_pos ⟨e, hlt s e⟩, <- hu]
      exact (hs.val i o s hi ho e).symm
    · rw [if_neg (fun x => e x.1)]
      refine hs.cur s u (fun j oj hj hjd hoj => ?_) hu
      by_cases ej : j = i
      · subst ej; rw [ho] at hoj; cases hoj; exact e
      · exact hn j oj hj (fun x => by rcases (hD' j).1 x with h | h; exact hjd h; exact ej h) hoj
  · intro s hsw
    rw [xI, if_neg (fun x => hsw (hmem s x.1))]
    exact hs.same s hsw
theorem WE.eff {D : Nat -> Prop} {p : List Nat} {ld : List (Nat × Shape × Value × Value)} {V : Nat -> Value} {E : Nat -> Env} {env : Env} {a : Act} {w w' : World} (hR : ROk ops)
    (hs : WE P r nt dfr ws a0 ops D p ld V E env a w) {i : Nat} {o : Oper} {v : Value} (ho : ops[i]? = some o) (hi : i ∉ p) (hpre : ∀ j, Dir ops j i -> D j) (hd : oz nt o.dst = true)
    (hst : ∀ j sh av v, (j, sh, av, v) ∈ ld -> ¬ D j -> Ag sh av v w' True) (hws : ∀ d ∈ G9 ops.toList, d ∈ ws)
    {D' : Nat -> Prop} (hD' : ∀ k, D' k ↔ D k ∨ k = i) :
    WE P r nt dfr ws a0 ops D' (i :: p) ld (fun k => if k = i then v else V k) E (env.put o.dst v) (a.put o.dst v) w' := by
  have hpp : ∀ j, Pre ops j i -> D j := fun j hj => vK hs.closedD hpre hj
  have hmem : ∀ d, o.dst = some d -> d ∈ ws := fun d h => hws d (List.mem_filterMap.2 ⟨o, List.mem_of_getElem? (by simpa using ho), h⟩)
  have hnd' : ∀ k, ¬ D' k -> ¬ D k ∧ k ≠ i := fun k h => ⟨fun x => h ((hD' k).2 (.inl x)), fun x => h ((hD' k).2 (.inr x))⟩
  have hlt : ∀ d, o.dst = some d -> d < a.tmps.size := fun d h => by
    rw [h] at hd
    rw [hs.size]
    simpa [oz] using hd
  have hin : ∀ j, j ∈ i :: p -> j ≠ i -> j ∈ p := fun j hj hne => by cases hj with | head => exact absurd rfl hne | tail _ h => exact h
  refine ⟨?_, ?_, ?_, ?_, ?_, ?_, ?_, ?_, ?_, by rw [yA]; exact hs.size, by rw [BA]; exact hs.defers, ?_⟩
  · intro j hj
    rcases (hD' j).1 hj with h | rfl
    · exact List.mem_cons_of_mem _ (hs.sub j h)
    · exact List.mem_cons_self ..
  · intro j hj
    cases hj with
    | head => exact (Array.getElem?_eq_some_iff.1 ho).1
    | tail _ hj => exact hs.lt j hj
  · intro j k hj hk
    cases hj with
    | head => exact List.mem_cons_of_mem _ (hs.sub k (hpre k hk))
    | tail _ hj => exact List.mem_cons_of_mem _ (hs.closedP j k hj hk)
  · intro j k hj hk
    rcases (hD' j).1 hj with h | rfl
    · exact (hD' k).2 (.inl (hs.closedD j k h hk))
    · exact (hD' k).2 (.inl (hpre k hk))
  · intro j hj hn oj hoj
    obtain ⟨hn1, hn2⟩ := hnd' j hn
    obtain ⟨h1, h2, h3, h4⟩ := hs.pend j (hin j hj hn2) hn1 oj hoj
    simp only [if_neg hn2]
    rcases h4 with h4 | ⟨sh, av, h5, h6⟩
    · exact ⟨h1, h2, h4 w', .inl h4⟩
    · exact ⟨h1, h2, h6 w' (hst j sh av _ h5 hn1), .inr ⟨sh, av, h5, h6⟩⟩
  · intro j hj hn oj hoj s hsl hw u hu
    obtain ⟨hn1, hn2⟩ := hnd' j hn
    have hj' := hin j hj hn2
    rw [xI]
    by_cases e : o.dst = some s
    · rcases hR.apart j i oj o s hoj ho e hsl with h | h | h
      · exact absurd h hn2
      · exact absurd (tJ (D := (· ∈ p)) hs.closedP h hj') hi
      · exact absurd (hpp j h) hn1
    · rw [if_neg (fun x => e x.1)]
      refine hs.look j hj' hn1 oj hoj s hsl (fun k ok hok hks hpk => ?_) u hu
      rcases (hD' k).1 (hw k ok hok hks hpk) with h | rfl
      · exact h
      · rw [ho] at hok; cases hok; exact absurd hks e
  · intro j hj hn k ok s hpk hok hks
    obtain ⟨hn1, hn2⟩ := hnd' j hn
    have hj' := hin j hj hn2
    have hkp := tJ (D := (· ∈ p)) hs.closedP hpk hj'
    have hki : k ≠ i := fun h => hi (h ▸ hkp)
    rw [if_neg hki]
    exact hs.src j hj' hn1 k ok s hpk hok hks
  · intro s u hn hu
    rw [xI]
    rw [xM] at hu
    by_cases e : o.dst = some s
    · rw [if_pos ⟨e, hlt s e⟩]
      rw [if_pos e] at hu
      exact hu
    · rw [if_neg (fun x => e x.1)]
      rw [if_neg e] at hu
      refine hs.cur s u (fun j oj hj hjd hoj => ?_) hu
      have ej : j ≠ i := fun h => hi (h ▸ hj)
      exact hn j oj (List.mem_cons_of_mem _ hj) (fun x => by rcases (hD' j).1 x with h | h; exact hjd h; exact ej h) hoj
  · intro j oj s hj hoj hjs
    rw [xM]
    by_cases e : j = i
    · subst e
      rw [ho] at hoj
      cases hoj
      simp [hjs]
    · have hds : o.dst ≠ some s := fun h => e (hR.dst j i oj o s hoj ho hjs h)
      rw [if_neg hds, if_neg e]
      exact hs.val j oj s (hin j hj e) hoj hjs
  · intro s hsw
    rw [xI, if_neg (fun x => hsw (hmem s x.1))]
    exact hs.same s hsw
theorem Ji {done : List Nat} {i : Nat} {o : Oper} (ho : ops[i]? = some o) : qY done o = true ↔ ∀ j, Dir ops j i -> j ∈ done := by
  simp only [qY, List.all_eq_true, Bool.or_eq_true, Bool.not_eq_true']
  constructor
  · rintro h j ⟨o', ho', e, he, hb, rfl⟩
    rw [ho] at ho'
    cases ho'
    rcases h e he with h1 | h1
    · rw [hb] at h1; cases h1
    · exact mX.1 h1
  · intro h e he
    cases hb : Region.binds .any e with
    | false => exact .inl rfl
    | true => exact .inr (mX.2 (h e.on ⟨o, ho, e, he, hb, rfl⟩))
theorem normalize (hP : OU P) (hR : ROk ops) {pbs : List Nat} {K : Env -> World -> Prop} {D : Nat -> Prop} {a : Act} {w : World} :
    ∀ (fuel : Nat) (p : List Nat) (ld : List (Nat × Shape × Value × Value)) (V : Nat -> Value) (E : Nat -> Env) (env : Env),
      WE P r nt dfr ws a0 ops D p ld V E env a w -> t_ P nt ops.toList pbs fuel p ld env w K ->
      ∃ fuel' p' ld' V' E' env', WE P r nt dfr ws a0 ops D p' ld' V' E' env' a w ∧ t_ P nt ops.toList pbs (fuel' + 1) p' ld' env' w K ∧ tZ P p' (enumFrom 0 ops.toList) = none := by
  intro fuel
  induction fuel with
  | zero => intro p ld V E env _ h; exact h.elim
  | succ fuel ih =>
    intro p ld V E env hs h
    cases hf : tZ P p (enumFrom 0 ops.toList) with
    | none => exact ⟨fuel, p, ld, V, E, env, hs, h, hf⟩
    | some x =>
      obtain ⟨i, o⟩ := x
      simp only [t_, hf] at h
      obtain ⟨hm, hi, hne, hok⟩ := Pv _ hf
      have ho := sU.1 hm
      obtain ⟨v, hd, hK, hex, hag⟩ := Zu hP r ho hne h
      refine ih _ _ _ _ _ (hs.more hR ho hi hne ((Ji ho).1 hok) hd hex (ld' := Io P ops.toList i o env (env.put o.dst v) ld) (fun x hx => ?_) ?_) hK
      · unfold Io
        split
        · cases NH ops.toList o env with
          | false => exact hx
          | true =>
            simp only [cond_true]
            split
            · exact List.mem_cons_of_mem _ hx
            · exact hx
        · exact hx
      · rcases hag with hag | ⟨sh, av, h1, h2⟩
        · exact .inl hag
        · exact .inr ⟨sh, av, h1 ld, h2⟩
end
end Gp
end
section
namespace Gp
open Go
section
variable {P : Program} {r : Option Nat} {nt : Nat} {dfr : List Deferred} {ws : List Nat} {a0 : Act} {ops : Array Oper}
def nF : List Bool -> Nat
  | [] => 0
  | b :: l => (if b then 0 else 1) + nF l
theorem aa8 : ∀ (l : List Bool) (i : Nat), l[i]? = some false -> nF (l.set i true) + 1 = nF l := by
  intro l
  induction l with
  | nil => intro i h; simp at h
  | cons b l ih =>
    intro i h
    cases i with
    | zero => simp at h; subst h; simp [nF]; omega
    | succ i =>
      have := ih i (by simpa using h)
      simp only [List.set_cons_succ, nF]
      omega
theorem aam : ∀ (l : List Bool), nF l = 0 -> ∀ i, i < l.length -> l[i]? = some true := by
  intro l
  induction l with
  | nil => intro _ i h; simp at h
  | cons b l ih =>
    intro h i hi
    simp only [nF] at h
    cases i with
    | zero => cases b <;> simp at h ⊢
    | succ i => simpa using ih (by omega) i (by simpa using hi)
theorem ZL {listed : Array Bool} {i : Nat} (hi : i < listed.size) (k : Nat) : Ql (listed.setIfInBounds i true) k ↔ Ql listed k ∨ k = i := by
  unfold Ql
  simp only [Array.getD_eq_getD_getElem?, Array.getElem?_setIfInBounds]
  by_cases h : i = k
  · subst h; simp [hi]
  · simp [h, Ne.symm h]
theorem Il {listed : Array Bool} (hsz : listed.size = ops.size) {i : Nat} : i ∈ Region.ready .any ops listed ↔ ∃ o, ops[i]? = some o ∧ ¬ Ql listed i ∧ ∀ j, Dir ops j i -> Ql listed j := by
  unfold Region.ready
  simp only [List.mem_filter, List.mem_range, Bool.and_eq_true]
  constructor
  · rintro ⟨h1, h2, h3⟩
    have ho : ops[i]? = some ops[i] := Array.getElem?_eq_getElem h1
    refine ⟨ops[i], ho, ?_, ?_⟩
    · have : i < listed.size := by omega
      unfold Ql
      simp only [Array.getD_eq_getD_getElem?, Array.getElem?_eq_getElem this, Option.getD_some] at h2 ⊢
      simpa using h2
    · rintro j ⟨o', ho', e, he, hb, rfl⟩
      rw [ho] at ho'
      cases ho'
      simp only [ho, Option.map_some, Option.getD_some, Array.all_eq_true_iff_forall_mem] at h3
      have := h3 e (by simpa using he)
      rw [hb] at this
      simpa [Ql] using this
  · rintro ⟨o, ho, h1, h2⟩
    have hi := (Array.getElem?_eq_some_iff.1 ho).1
    refine ⟨hi, ?_, ?_⟩
    · have : i < listed.size := by omega
      unfold Ql at h1
      simp only [Array.getD_eq_getD_getElem?, Array.getElem?_eq_getElem this, Option.getD_some] at h1 ⊢
      simpa using h1
    · simp only [ho, Option.map_some, Option.getD_some, Array.all_eq_true_iff_forall_mem]
      intro e he
      cases hb : Region.binds .any e with
      | false => rfl
      | true => simpa [Ql] using h2 e.on ⟨o, ho, e, by simpa using he, hb, rfl⟩
theorem JD (hR : ROk ops) {listed : Array Bool} (hsz : listed.size = ops.size) (h : Region.ready .any ops listed = []) : ∀ i, i < ops.size -> Ql listed i := by
  intro i
  induction i using Nat.strongRecOn with
  | _ i ih =>
    intro hi
    by_cases hl : Ql listed i
    · exact hl
    · have : i ∈ Region.ready .any ops listed := (Il hsz).2 ⟨ops[i], Array.getElem?_eq_getElem hi, hl, fun j hj => by
        have := hR.back i j hj
        exact ih j this (by omega)⟩
      rw [h] at this
      cases this
theorem finish {K : Env -> World -> Prop} {Q : Exit -> Act -> World -> Prop} {listed : Array Bool} {p : List Nat} {ld : List (Nat × Shape × Value × Value)} {V : Nat -> Value} {E : Nat -> Env} {env : Env} {a : Act} {w : World} {pbs : List Nat} {fuel : Nat}
    (hall : ∀ i, i < ops.size -> Ql listed i) (hs : WE P r nt dfr ws a0 ops (Ql listed) p ld V E env a w) (h : t_ P nt ops.toList pbs (fuel + 1) p ld env w K)
    (hf : tZ P p (enumFrom 0 ops.toList) = none) (hQ : ∀ env a w, F6 nt dfr ws a0 env a -> K env w -> Q .normal a w) : Q .normal a w := by
  have hr : zH P p (enumFrom 0 ops.toList) = [] := by
    cases hx : zH P p (enumFrom 0 ops.toList) with
    | nil => rfl
    | cons x l =>
      obtain ⟨i, o⟩ := x
      obtain ⟨h1, h2, _⟩ := (MN (P := P) (done := p) (i := i) (o := o) _).1 (by rw [hx]; simp)
      exact absurd (hs.sub i (hall i (Array.getElem?_eq_some_iff.1 (sU.1 h1)).1)) h2
  simp only [t_, hf, hr] at h
  have hK : K env w := by
    cases hb : Nat.beq p.length ops.toList.length with
    | false => rw [hb] at h; exact h.elim
    | true => rw [hb] at h; exact h
  refine hQ env a w ⟨fun s u hu => hs.cur s u (fun j oj hj hnd _ => absurd (hall j (hs.lt j hj)) hnd) hu, hs.size, hs.defers, hs.same⟩ hK
theorem Vo (hP : OU P) (hR : ROk ops) {n : Nat} {K : Env -> World -> Prop} {Q : Exit -> Act -> World -> Prop} (hws : ∀ d ∈ G9 ops.toList, d ∈ ws)
    (hQ : ∀ env a w, F6 nt dfr ws a0 env a -> K env w -> Q .normal a w) :
    ∀ (m : Nat) (listed : Array Bool) (a : Act) (w : World) (p : List Nat) (ld : List (Nat × Shape × Value × Value)) (V : Nat -> Value) (E : Nat -> Env) (env : Env) (fuel : Nat),
      listed.size = ops.size -> nF listed.toList <= m -> WE P r nt dfr ws a0 ops (Ql listed) p ld V E env a w ->
      t_ P nt ops.toList (vk ops.toList []) fuel p ld env w K -> wpAnyIn (Fr r) n P .any ops Q m listed a w := by
  intro m
  induction m with
  | zero =>
    intro listed a w p ld V E env fuel hsz hm hs h
    have hall : ∀ i, i < ops.size -> Ql listed i := by
      intro i hi
      have := aam listed.toList (by omega) i (by simpa [hsz] using hi)
      have h2 : listed[i]? = some true := by simpa using this
      simp [Ql, Array.getD_eq_getD_getElem?, h2]
    obtain ⟨fuel', p', ld', V', E', env', hs', h', hf⟩ := normalize hP hR fuel p ld V E env hs h
    refine ⟨?_, finish hall hs' h' hf hQ⟩
    cases hx : Region.ready .any ops listed with
    | nil => rfl
    | cons i l =>
      obtain ⟨o, ho, hn, _⟩ := (Il hsz (i := i)).1 (by rw [hx]; simp)
      exact absurd (hall i (Array.getElem?_eq_some_iff.1 ho).1) hn
  | succ m ih =>
    intro listed a w p ld V E env fuel hsz hm hs h
    obtain ⟨fuel', p', ld', V', E', env', hs', h', hf⟩ := normalize hP hR fuel p ld V E env hs h
    refine ⟨fun hr => finish (JD hR hsz hr) hs' h' hf hQ, fun i hi => ?_⟩
    obtain ⟨o, ho, hnd, hpre⟩ := (Il hsz).1 hi
    have hil : i < listed.size := by rw [hsz]; exact (Array.getElem?_eq_some_iff.1 ho).1
    have hD' := ZL hil
    have hsz' : (listed.setIfInBounds i true).size = ops.size := by simpa using hsz
    have hm' : nF (listed.setIfInBounds i true).toList <= m := by
      have hfalse : listed.toList[i]? = some false := by
        have : listed[i]? = some listed[i] := Array.getElem?_eq_getElem hil
        unfold Ql at hnd
        simp only [Array.getD_eq_getD_getElem?, this, Option.getD_some] at hnd
        have h2 : listed[i] = false := by simpa using hnd
        simp [hil, h2]
      have := aa8 listed.toList i hfalse
      rw [Array.toList_setIfInBounds]
      omega
    by_cases hip : i ∈ p'
    · obtain ⟨_, _, hex, _⟩ := hs'.pend i hip hnd o ho
      refine hex n Q a _ (fun s hsl u hu => hs'.look i hip hnd o ho s hsl (fun j oj _ _ hpj => vK hs'.closedD hpre hpj) u hu) ?_
      exact ih _ _ _ _ _ _ _ _ _ hsz' hm' (hs'.take hR ho hip hnd hpre hws hD') h'
    · have hok : qY p' o = true := (Ji ho).2 fun j hj => hs'.sub j (hpre j hj)
      have heff := Qr _ hf i o (sU.2 ho) hip hok
      have hmem := (MN (P := P) (done := p') (i := i) (o := o) (enumFrom 0 ops.toList)).2 ⟨sU.2 ho, hip, heff, hok⟩
      simp only [t_, hf] at h'
      cases hx : zH P p' (enumFrom 0 ops.toList) with
      | nil => rw [hx] at hmem; cases hmem
      | cons e es =>
        rw [hx] at hmem h'
        have hstep := WQ _ h' (i, o) hmem
        refine yg hP ho hstep (fun s hsl u hu => hs'.cur s u (fun j oj hj hjd hoj hjs => ?_) hu) fun v w' hv hd => ?_
        · rcases hR.apart i j o oj s ho hoj hjs hsl with e | e | e
          · exact hip (e ▸ hj)
          · exact hjd (vK hs'.closedD hpre e)
          · exact hip (tJ (D := (· ∈ p')) hs'.closedP e hj)
        · obtain ⟨hd1, hd2⟩ := Vm _ hv
          refine ih _ _ _ _ _ _ _ _ _ hsz' hm' (hs'.eff hR ho hip hpre hd (fun j sh av v hj hjn => ?_) hws hD') hd1
          rcases hd2 j sh av v hj with hb | hb
          · exact absurd (vK hs'.closedD hpre (KT hb)) hjn
          · exact hb
theorem MK (hP : OU P) {id n : Nat} {K : Env -> World -> Prop} {Q : Exit -> Act -> World -> Prop} {env : Env} {a : Act} {w : World} (hws : ∀ d ∈ G9 ops.toList, d ∈ ws)
    (hQ : ∀ env a w, F6 nt dfr ws a0 env a -> K env w -> Q .normal a w) (ha : F6 nt dfr ws a0 env a) (h : M_ P nt ops.toList env w K) : (Code.region id ops true).wpIn (Fr r) n P Q a w := by
  unfold M_ at h
  cases hb : G8 ops.toList (vk ops.toList []) with
  | false => rw [hb] at h; exact h.elim
  | true =>
    rw [hb] at h
    have hR := NZ hb
    refine wpIn_region_any hP.mixed ?_
    have hno : ∀ i, ¬ Ql (Array.replicate ops.size false) i := by
      intro i hi
      unfold Ql at hi
      simp only [Array.getD_eq_getD_getElem?, Array.getElem?_replicate] at hi
      by_cases h2 : i < ops.size
      · simp [h2] at hi
      · simp [h2] at hi
    refine Vo (V := fun _ => undef) (E := fun _ => []) hP hR hws hQ ops.size (Array.replicate ops.size false) a w.drew [] [] env _ (by simp) ?_ ?_ h
    · have : ∀ k, nF (List.replicate k false) = k := by
        intro k
        induction k with
        | zero => rfl
        | succ k ih => simp [List.replicate_succ, nF, ih]; omega
      simp [this]
    · exact ⟨fun i hi => absurd hi (hno i), fun i hi => by simp at hi, fun i j hi => by simp at hi, fun i j hi => absurd hi (hno i), fun i hi => by simp at hi, fun i hi => by simp at hi,
        fun i hi => by simp at hi, fun s u _ hu => ha.agr s u hu, fun j oj s hj => by simp at hj, ha.size, ha.defers, ha.same⟩
end
end Gp
end
section
namespace Gp
open Go
def writes : Code -> List Nat
  | .region _ ops _ => G9 ops.toList
  | .seq a b => writes a ++ writes b
  | .cond _ a b => writes a ++ writes b
  | .block _ a => writes a
  | .loop a => writes a
  | .scope a => writes a
  | _ => []
def iF : Code -> Bool
  | .seq a b => iF a || iF b
  | .cond _ a b => iF a || iF b
  | .block _ a => iF a
  | .loop a => iF a
  | .scope a => iF a
  | .rangeFunc _ _ _ _ => true
  | _ => false
@[reducible] def KF : List (Nat × Kind) -> Type
  | [] => Unit
  | (_, k) :: r => k.T × KF r
def encS : (st : List (Nat × Kind)) -> KF st -> Env
  | [], _ => []
  | (s, k) :: r, x => (s, k.enc x.1) :: encS r x.2
def getS : (st : List (Nat × Kind)) -> Env -> (KF st -> Prop) -> Prop
  | [], _, φ => φ ()
  | (s, k) :: r, env, φ => match env.get s with
    | some v => k.dec v fun x => getS r env fun y => φ (x, y)
    | none => False
def without (ws : List Nat) : Env -> Env
  | [] => []
  | (s, v) :: r => cond (AL s ws) (without ws r) ((s, v) :: without ws r)
def cu {S : Type} (body : S -> World -> (S -> World -> Prop) -> Prop) (s : S) (w : World) : Prop :=
  ∃ I : Nat -> S -> World -> Prop, (∃ n, I n s w) ∧ ∀ n s w, I n s w -> body s w fun s' w' => ∃ m, m < n ∧ I m s' w'
@[reducible] def Xc : List Kind -> Type
  | [] => Unit
  | k :: r => k.T × Xc r
def Oi : (ks : List Kind) -> Xc ks -> List Value
  | [], _ => []
  | k :: r, x => k.enc x.1 :: Oi r x.2
def Nu : List Nat -> List Value -> Env
  | [], _ => []
  | _ :: _, [] => []
  | s :: r, v :: vs => (s, v) :: Nu r vs
@[reducible] def ShT : Shape -> Type
  | .one k => k.T
  | .agg ks => Xc ks
def Yg : (s : Shape) -> ShT s -> Value
  | .one k, x => k.enc x
  | .agg ks, x => .agg ⟨Oi ks x⟩
@[reducible] def AO : List Shape -> Type
  | [] => Unit
  | s :: r => ShT s × AO r
def encR : (ks : List Shape) -> AO ks -> List Value
  | [], _ => []
  | s :: r, x => Yg s x.1 :: encR r x.2
inductive Zi where
  | sh (s : Shape)
  | addr
  | Q5 (ks : List Kind)
@[reducible] def JT : Zi -> Type
  | .sh s => ShT s
  | .addr => Addr
  | .Q5 ks => Xc ks
def V9 : (s : Zi) -> JT s -> Value
  | .sh s, x => Yg s x
  | .addr, a => .pointer (some a)
  | .Q5 ks, x => .tuple ⟨Oi ks x⟩
def Y3 : (ks : List Kind) -> List Value -> (Xc ks -> Prop) -> Prop
  | [], [], φ => φ ()
  | k :: r, v :: vs, φ => k.dec v fun x => Y3 r vs fun y => φ (x, y)
  | _, _, _ => False
def abH : (s : Zi) -> Value -> (JT s -> Prop) -> Prop
  | .sh (.one k), v, φ => k.dec v φ
  | .sh (.agg ks), .agg cs, φ => Y3 ks cs.toList φ
  | .addr, .pointer (some a), φ => φ a
  | .Q5 ks, .tuple cs, φ => Y3 ks cs.toList φ
  | _, _, _ => False
@[reducible] def XA : List (Nat × Zi) -> Type
  | [] => Unit
  | (_, s) :: r => JT s × XA r
def XE : (st : List (Nat × Zi)) -> XA st -> Env
  | [], _ => []
  | (t, s) :: r, x => (t, V9 s x.1) :: XE r x.2
def Yl : (st : List (Nat × Zi)) -> Env -> (XA st -> Prop) -> Prop
  | [], _, φ => φ ()
  | (t, s) :: r, env, φ => match env.get t with
    | some v => abH s v fun x => Yl r env fun y => φ (x, y)
    | none => False
def OH {S : Type} (body : S -> Prop) (k : (S -> Prop) -> Prop) : Prop := k body
theorem OH.of {S : Type} {body : S -> Prop} {k : (S -> Prop) -> Prop} (h : ∀ J : S -> Prop, (∀ s, body s -> J s) -> k J) : OH body k := h body fun _ h => h
inductive U1 where
  | leaf
  | seq (a b : U1)
  | join (st : List (Nat × Zi)) (a b : U1)
  | cond (a b : U1)
  | blk (a : U1)
  | loop (st : List (Nat × Kind)) (a : U1)
  | rng (ks : List Shape) (a b : U1)
def bW (w : World) (l : Nat) (st : LoopState) (p : Option Code) : World :=
  { w with heap := w.heap.modify l fun | .loop lp => .loop { lp with state := st, pending := p } | o => o }
def aA (w : World) (l : Nat) : World :=
  { w with heap := w.heap.modify l fun | .loop lp => .loop { lp with state := .busy } | o => o }
def wR : Exit -> Bool
  | .normal => true
  | _ => false
def wE : Exit -> Option (Option Code)
  | .normal => some none
  | .ret => some (some .ret)
  | .exit id => some (some (.exit id))
  | _ => none
structure abd (P : Program) (r : Option Nat) (w : World) (ks : List Shape) (bodyS : Nat -> AO ks -> World -> (Exit -> World -> Prop) -> Prop)
    (l : Nat) (L : LoopState -> Option Code -> World -> Prop) (w1 : World) : Prop where
  at_ : l = if r.isNone then w.heap.size + 1 else w.heap.size
  size : w1.heap.size = l + 1
  old : ∀ b, b < w.heap.size -> w1.heap[b]? = w.heap[b]?
  io : w1.os = w.os ∧ w1.tape = w.tape ∧ w1.output = w.output
  marks : r = none -> w1.heap[w.heap.size]? = some (.deferred (some []))
  ready : L .ready none w1
  frame : ∀ st p W W', L st p W -> W'.heap[l]? = W.heap[l]? -> L st p W'
  set : ∀ st p st' p' W, L st p W -> L st' p' (bW W l st' p')
  busy : ∀ p W, L .ready p W -> L .busy p (aA W l)
  isLoop : ∀ st p W, L st p W -> ∃ lp, W.heap[l]? = some (.loop lp)
  yield : ∀ (x : AO ks) (W : World) (p : Option Code) (R : Bool -> World -> Prop), L .ready p W ->
    bodyS l x W (fun e W' => L .busy p W' ∧ ∃ j, wE e = some j ∧ R (wR e) (bW W' l (if wR e then .ready else .done) j)) -> Ii P l (encR ks x) W R
def ug : Code -> List Nat
  | .exit id => [id]
  | .seq a b => ug a ++ ug b
  | .cond _ a b => ug a ++ ug b
  | .block _ a => ug a
  | .loop a => ug a
  | .scope a => ug a
  | .rangeFunc _ _ _ b => ug b
  | _ => []
def LV (id : Nat) : List (Nat × (World -> Prop)) -> World -> Prop
  | [], _ => False
  | (i, K) :: r, w => cond (Nat.beq i id) (K w) (LV id r w)
def YF (Kn Kr : World -> Prop) (Kx : List (Nat × (World -> Prop))) (p : Option Code) (w : World) : Prop :=
  match p with
  | none => Kn w
  | some .ret => Kr w
  | some (.exit id) => LV id Kx w
  | _ => False
def Ep (P : Program) (r : Option Nat) (ks : List Shape) (vf : Value) (w : World) (bodyS : Nat -> AO ks -> World -> (Exit -> World -> Prop) -> Prop)
    (Kn Kr : World -> Prop) (Kx : List (Nat × (World -> Prop))) : Prop :=
  (∀ l₀, r = some l₀ -> ∃ lp, w.heap[l₀]? = some (.loop lp)) ∧
  match vf with
  | .func (.func f) first cap => lY P f = true ∧ ∀ l L w1, abd P r w ks bodyS l L w1 ->
      GK P [] f (first.toList ++ (Value.func (.yield l) #[] #[] :: cap.toList)) w1 fun _ w2 => ∃ st p, L st p w2 ∧ st ≠ .busy ∧ YF Kn Kr Kx p (bW w2 l .exhausted p)
  | _ => False
def den (P : Program) (nt : Nat) : Code -> Option Nat -> U1 -> Env -> List Nat -> World -> (Exit -> Env -> List Nat -> World -> Prop) -> Prop
  | .skip, _, _, env, ds, w, K => K .normal env ds w
  | .label _, _, _, env, ds, w, K => K .normal env ds w
  | .ret, _, _, env, ds, w, K => K .ret env ds w
  | .exit id, _, _, env, ds, w, K => K (.exit id) env ds w
  | .region _ ops draw, _, _, env, ds, w, K => cond draw (M_ P nt ops.toList env w fun env' w' => K .normal env' ds w') (UJ P nt ops.toList 0 ops.toList env w fun env' w' => K .normal env' ds w')
  | .seq a b, r, an, env, ds, w, K => match an with
    | .seq x y => den P nt a r x env ds w fun e env' ds' w' => match e with
      | .normal => den P nt b r y env' ds' w' K
      | e => K e env' ds' w'
    | .join st x y => cond (iF a)
      (OH (S := XA st × List Nat × World) (fun s => den P nt b r y (XE st s.1 ++ without (writes a) env) s.2.1 s.2.2 K) fun J => den P nt a r x env ds w fun e env' ds' w' => match e with
        | .normal => Yl st env' fun s' => J (s', ds', w')
        | e => K e env' ds' w')
      (OH (S := XA st × World) (fun s => den P nt b r y (XE st s.1 ++ without (writes a) env) ds s.2 K) fun J => den P nt a r x env ds w fun e env' ds' w' => match e with
        | .normal => Yl st env' fun s' => J (s', w')
        | e => K e env' ds' w')
    | _ => False
  | .cond c a b, r, an, env, ds, w, K => match an with
    | .cond x y => match XY env c with
      | some (.bool t) => cond t (den P nt a r x env ds w K) (den P nt b r y env ds w K)
      | _ => False
    | _ => False
  | .block id a, r, an, env, ds, w, K => match an with
    | .blk x => den P nt a r x env ds w fun e env' ds' w' => match e with
      | .exit id' => cond (Nat.beq id' id) (K .normal env' ds' w') (K (.exit id') env' ds' w')
      | e => K e env' ds' w'
    | _ => False
  | .scope a, r, an, env, ds, w, K => den P nt a r an env ds w fun e env' ds' w' => match e with
    | .goto _ => False
    | e => K e env' ds' w'
  | .loop a, r, an, env, ds, w, K => match an with
    | .loop st x => cond (iF a)
      (getS st env fun s0 => cu (S := KF st × List Nat) (fun s w next => den P nt a r x (encS st s.1 ++ without (writes a) env) s.2 w fun e env' ds' w' => match e with
        | .normal => getS st env' fun s' => next (s', ds') w'
        | e => K e env' ds' w') (s0, ds) w)
      (getS st env fun s0 => cu (S := KF st) (fun s w next => den P nt a r x (encS st s ++ without (writes a) env) ds w fun e env' ds' w' => match e with
        | .normal => getS st env' fun s' => next s' w'
        | e => K e env' ds' w') s0 w)
    | _ => False
  | .rangeFunc g ps assign body, r, an, env, ds, w, K => match an with
    | .rng ks x y => cond (!iF assign && (Nat.beq ps.toList.length ks.length && (CO ps.toList && ps.toList.all fun s => Nat.blt s nt))) (Ep P r ks (ev env g) w
      (fun l x' W Kb => den P nt assign (some l) x (Nu ps.toList (encR ks x') ++ env) [] W fun e env1 _ W1 => match e with
        | .normal => W1.heap[l]? = W.heap[l]? ∧ den P nt body (some l) y env1 [] (aA W1 l) fun e _ _ W2 => Kb e W2
        | _ => False)
      (fun w' => K .normal env (cond r.isNone (w.heap.size :: ds) ds) w') (fun w' => K .ret env (cond r.isNone (w.heap.size :: ds) ds) w')
      ((ug body).map fun id => (id, fun w' => K (.exit id) env (cond r.isNone (w.heap.size :: ds) ds) w'))) False
    | _ => False
  | _, _, _, _, _, _, _ => False
end Gp
end
section
namespace Gp
open Go
def Zg (ds : List Nat) : List Deferred := ds.map fun D => { target := .collected D, args := #[] }
theorem Dl {k : Kind} {v : Value} {φ : k.T -> Prop} (h : k.dec v φ) : ∃ x, v = k.enc x ∧ φ x := by
  cases k <;> cases v <;> first
    | exact h.elim
    | exact ⟨_, rfl, h⟩
    | skip
  case int.int k k' n =>
    simp only [Kind.dec] at h
    cases hb : EZ k k' with
    | false => rw [hb] at h; exact h.elim
    | true =>
      rw [hb] at h
      have := GN hb
      subst this
      exact ⟨n, rfl, h⟩
theorem get_append (A B : Env) (s : Nat) : Env.get (A ++ B) s = match Env.get A s with | some v => some v | none => Env.get B s := by
  induction A with
  | nil => rfl
  | cons x A ih =>
    obtain ⟨t, v⟩ := x
    rw [List.cons_append, jT, jT]
    by_cases h : t = s
    · simp [h]
    · simp [h, ih]
theorem BQ (ws : List Nat) (env : Env) (s : Nat) : Env.get (without ws env) s = if s ∈ ws then none else Env.get env s := by
  induction env with
  | nil => simp [without, Env.get]
  | cons x env ih =>
    obtain ⟨t, v⟩ := x
    simp only [without]
    cases hb : AL t ws with
    | true =>
      have ht := mX.1 hb
      simp only [cond_true, ih, jT]
      by_cases h : t = s
      · subst h; simp [ht]
      · simp [h]
    | false =>
      have ht : t ∉ ws := fun hm => by rw [mX.2 hm] at hb; cases hb
      simp only [cond_false, jT, ih]
      by_cases h : t = s
      · subst h; simp [ht]
      · simp [h]
theorem Dt : ∀ (st : List (Nat × Kind)) (env : Env) (φ : KF st -> Prop), getS st env φ -> ∃ x, φ x ∧ ∀ t v, Env.get (encS st x) t = some v -> env.get t = some v := by
  intro st
  induction st with
  | nil => exact fun env φ h => ⟨(), h, fun t v hv => by simp [encS, Env.get] at hv⟩
  | cons p st ih =>
    obtain ⟨s, k⟩ := p
    intro env φ h
    simp only [getS] at h
    cases hg : env.get s with
    | none => simp only [hg] at h
    | some v =>
      simp only [hg] at h
      obtain ⟨x, hx, h⟩ := Dl h
      obtain ⟨y, hy, h2⟩ := ih env _ h
      refine ⟨(x, y), hy, fun t u hu => ?_⟩
      simp only [encS, jT] at hu
      by_cases e : s = t
      · subst e; simp at hu; rw [<- hu, hg, hx]
      · rw [if_neg e] at hu; exact h2 t u hu
theorem O1 : ∀ (ks : List Kind) (vs : List Value) (φ : Xc ks -> Prop), Y3 ks vs φ -> ∃ x, vs = Oi ks x ∧ φ x := by
  intro ks
  induction ks with
  | nil => exact fun vs φ h => match vs, h with | [], h => ⟨(), rfl, h⟩
  | cons k ks ih =>
    intro vs φ h
    cases vs with
    | nil => exact h.elim
    | cons v vs =>
      simp only [Y3] at h
      obtain ⟨x, hx, h⟩ := Dl h
      obtain ⟨y, hy, h⟩ := ih _ _ h
      exact ⟨(x, y), by rw [Oi, hx, hy], h⟩
theorem Wy {s : Zi} {v : Value} {φ : JT s -> Prop} (h : abH s v φ) : ∃ x, v = V9 s x ∧ φ x := by
  cases s with
  | sh s => cases s with
    | one k => exact Dl h
    | agg ks => cases v <;> first
      | exact h.elim
      | (obtain ⟨x, hx, h⟩ := O1 _ _ _ h
         refine ⟨x, ?_, h⟩
         simp only [V9, Yg, <- hx])
  | addr => cases v <;> first
      | exact h.elim
      | (rename_i q; cases q with
         | none => exact h.elim
         | some a => exact ⟨a, rfl, h⟩)
  | Q5 ks => cases v <;> first
      | exact h.elim
      | (obtain ⟨x, hx, h⟩ := O1 _ _ _ h
         refine ⟨x, ?_, h⟩
         simp only [V9, <- hx])
theorem OZ : ∀ (st : List (Nat × Zi)) (env : Env) (φ : XA st -> Prop), Yl st env φ -> ∃ x, φ x ∧ ∀ t v, Env.get (XE st x) t = some v -> env.get t = some v := by
  intro st
  induction st with
  | nil => exact fun env φ h => ⟨(), h, fun t v hv => by simp [XE, Env.get] at hv⟩
  | cons p st ih =>
    obtain ⟨s, k⟩ := p
    intro env φ h
    simp only [Yl] at h
    cases hg : env.get s with
    | none => simp only [hg] at h
    | some v =>
      simp only [hg] at h
      obtain ⟨x, hx, h⟩ := Wy h
      obtain ⟨y, hy, h2⟩ := ih env _ h
      refine ⟨(x, y), hy, fun t u hu => ?_⟩
      simp only [XE, jT] at hu
      by_cases e : s = t
      · subst e; simp at hu; rw [<- hu, hg, hx]
      · rw [if_neg e] at hu; exact h2 t u hu
theorem least (p : Nat -> Prop) (h : ∃ n, p n) : ∃ n, p n ∧ ∀ m, p m -> n <= m := by
  obtain ⟨n, hn⟩ := h
  induction n using Nat.strongRecOn with
  | _ n ih =>
    by_cases hx : ∃ m, m < n ∧ p m
    · obtain ⟨m, hm, hp⟩ := hx
      exact ih m hm hp
    · exact ⟨n, hn, fun m hm => Nat.le_of_not_lt fun hlt => hx ⟨m, hlt, hm⟩⟩
theorem wpIn_loop_ghost {F : Fence} {n : Nat} {P : Program} {c : Code} {Q : Exit -> Act -> World -> Prop} {a : Act} {w : World} (I : Nat -> Act -> World -> Prop) (h₀ : ∃ m, I m a w)
    (round : ∀ m a w, I m a w -> c.wpIn F n P (Exit.then (fun a' w' => ∃ m', m' < m ∧ I m' a' w') Q) a w) : (Code.loop c).wpIn F n P Q a w := by
  have hl : ∀ a w, (∃ m, I m a w) -> ∃ m, I m a w ∧ ∀ k, I k a w -> m <= k := fun a w h => least (fun m => I m a w) h
  refine wpIn_loop (fun a w => ∃ m, I m a w) (fun a w => @dite Nat (∃ m, I m a w) (Classical.propDecidable _) (fun h => Classical.choose (hl a w h)) (fun _ => 0)) h₀ ?_
  intro a w h
  obtain ⟨hI, hmin⟩ := Classical.choose_spec (hl a w h)
  refine wpIn_mono (round _ a w hI) fun e a' w' hq => ?_
  cases e <;> first | exact hq | skip
  obtain ⟨m', hlt, hI'⟩ := hq
  refine ⟨⟨m', hI'⟩, ?_⟩
  have h' : ∃ m, I m a' w' := ⟨m', hI'⟩
  obtain ⟨_, hmin'⟩ := Classical.choose_spec (hl a' w' h')
  simp only [dif_pos h, dif_pos h']
  have := hmin' m' hI'
  omega
section
variable {P : Program} {F : Fence} {n : Nat} {b : Frame} {a : Act} {k : List Item} {cs : List Frame} {w : World} {Q : Exit -> Act -> World -> Prop}
theorem qN {c : Code} : step P (lone (b.atR a (.code (.scope c) :: k)) cs w) = .next (lone (b.atR a (.code c :: .inScope c :: k)) cs w) :=
  step_lone_go (by simp [stepG, stepG.exec, Frame.atR])
theorem N7 {c : Code} : step P (lone (b.atR a (.inScope c :: k)) cs w) = .next (lone (b.atR a k) cs w) :=
  step_lone_go (by simp [stepG, stepG.exec, Frame.atR])
theorem Eh {c : Code} (h : c.wpIn F n P (Exit.noGoto Q) a w) : (Code.scope c).wpIn F n P Q a w := by
  intro b k cs hro hb hr
  have h0 : (lone (b.atR a (.code (.scope c) :: k)) cs w).fenced P F := fenced_calm hb hr rfl
  obtain ⟨e, a₁, w₁, hq, harr⟩ := h b (.inScope c :: k) cs hro hb hr
  cases e with
  | normal => exact ⟨.normal, a₁, w₁, hq, .head h0 qN (StepsIn.trans harr (.one (fenced_calm hb hr rfl) N7))⟩
  | exit id =>
    have hx : exitTo id (.inScope c :: k) = exitTo id k := by simp [exitTo]
    exact ⟨.exit id, a₁, w₁, hq, fun k' hk => .head h0 qN (harr.1 k' (by rw [hx]; exact hk)),
      fun hr' hk => let ⟨k₁, h1, h2⟩ := harr.2 hr' (by rw [hx]; exact hk); ⟨k₁, h1, .head h0 qN h2⟩⟩
  | goto l => exact hq.elim
  | ret => exact ⟨_, a₁, w₁, hq, .of_steps (.one h0 qN) harr⟩
  | panic ch => exact ⟨_, a₁, w₁, hq, .of_steps (.one h0 qN) harr⟩
  | outgrown => exact ⟨_, a₁, w₁, hq, .of_steps (.one h0 qN) harr⟩
end
theorem TR {env : Env} {a : Act} (ha : WZ env a) {c : Operand} {v : Value} (h : XY env c = some v) : a.eval c = v := by
  have := abC ha (x := c) (by rw [h]; rfl)
  rw [<- this, ev, h]; rfl
section
variable {P : Program}
theorem Jq (w : World) (l : Nat) (f : Obj -> Obj) (b : Nat) : (w.heap.modify l f)[b]? = if l = b then (w.heap[b]?).map f else w.heap[b]? := by
  rw [Array.getElem?_modify]
theorem Ve {w : World} {l : Nat} {lp : Loop} (h : w.heap[l]? = some (.loop lp)) (st : LoopState) (p : Option Code) : (bW w l st p).heap[l]? = some (.loop { lp with state := st, pending := p }) := by
  simp only [bW, Jq, if_true, h, Option.map_some]
theorem Y4 {w : World} {l : Nat} {lp : Loop} (h : w.heap[l]? = some (.loop lp)) : (aA w l).heap[l]? = some (.loop { lp with state := .busy }) := by
  simp only [aA, Jq, if_true, h, Option.map_some]
theorem yx {w : World} {l : Nat} {o : Obj} (h : w.heap[l]? = some o) (f : Obj -> Obj) : w.heap.setIfInBounds l (f o) = w.heap.modify l f := by
  apply Array.ext_getElem?
  intro i
  have hl := (Array.getElem?_eq_some_iff.1 h).1
  rw [Array.getElem?_setIfInBounds, Array.getElem?_modify]
  by_cases e : l = i
  · subst e
    have h2 : w.heap[l] = o := by have := Array.getElem?_eq_getElem hl; rw [h] at this; exact (Option.some.inj this).symm
    simp [hl, h2]
  · simp [e]
theorem run_getLoop {w : World} {l : Nat} {lp : Loop} (h : w.heap[l]? = some (.loop lp)) : (Instr.getLoop l).run P w = .ok lp w := by
  simp [Instr.getLoop, getObj, Sem.run, h]
theorem EM {w : World} {l : Nat} {lp : Loop} {o : Obj} (h : w.heap[l]? = some (.loop lp)) : (setObj l o).run P w = .ok () { w with heap := w.heap.setIfInBounds l o } := by
  simp [setObj, Sem.run, h]
theorem run_beginRound {w : World} {l : Nat} {lp : Loop} (h : w.heap[l]? = some (.loop lp)) (hr : lp.state = .ready) : (Instr.beginRound l).run P w = .ok () (aA w l) := by
  simp only [Instr.beginRound, Sem.run_bind, run_getLoop h, Result.andThen_ok, EM h, hr, Sem.run_pure]
  simp only [aA]
  rw [<- yx h]
theorem run_endRound {w : World} {l : Nat} {lp : Loop} (h : w.heap[l]? = some (.loop lp)) (j : Option Code) :
    (Instr.endRound l j).run P w = .ok (.bool j.isNone) (bW w l (if j.isNone then .ready else .done) j) := by
  simp only [Instr.endRound, Sem.run_bind, run_getLoop h, Result.andThen_ok, EM h, Sem.run_pure]
  simp only [bW]
  rw [<- yx h]
theorem run_endLoop {w : World} {l : Nat} {lp : Loop} (h : w.heap[l]? = some (.loop lp)) (hb : lp.state ≠ .busy) :
    (Instr.endLoop l).run P w = .ok lp.pending (bW w l .exhausted lp.pending) := by
  have hb' : ¬ (lp.state = .busy) := hb
  simp [Instr.endLoop, run_getLoop h, EM h, hb']
  simp only [bW]
  rw [<- yx h]
abbrev JL (ps : List Nat) (vs : List Value) (tmps : Array Value) : Array Value := (ps.zip vs).foldl (fun (tmps : Array Value) (p : Nat × Value) => tmps.setIfInBounds p.1 p.2) tmps
theorem WL : ∀ (ps : List Nat) (vs : List Value) (tmps : Array Value), (JL ps vs tmps).size = tmps.size := by
  intro ps
  induction ps with
  | nil => intro vs tmps; rfl
  | cons p ps ih =>
    intro vs tmps
    cases vs with
    | nil => rfl
    | cons v vs => simp only [JL, List.zip_cons_cons, List.foldl_cons] at ih ⊢; rw [ih]; simp
theorem KX : ∀ (ps : List Nat) (vs : List Value) (tmps : Array Value) (s : Nat), s ∉ ps -> (JL ps vs tmps)[s]? = tmps[s]? := by
  intro ps
  induction ps with
  | nil => intro vs tmps s _; rfl
  | cons p ps ih =>
    intro vs tmps s h
    cases vs with
    | nil => rfl
    | cons v vs =>
      simp only [JL, List.zip_cons_cons, List.foldl_cons] at ih ⊢
      rw [ih vs _ s (fun x => h (by simp [x]))]
      have : ¬ (p = s) := fun x => h (by simp [x])
      simp [this]
theorem Y1 : ∀ (ps : List Nat) (vs : List Value) (tmps : Array Value), CO ps = true -> (∀ s ∈ ps, s < tmps.size) ->
    ∀ s v, Env.get (Nu ps vs) s = some v -> (JL ps vs tmps)[s]? = some v := by
  intro ps
  induction ps with
  | nil => intro vs tmps _ _ s v h; simp [Nu, Env.get] at h
  | cons p ps ih =>
    intro vs tmps hnd hlt s v h
    cases vs with
    | nil => simp [Nu, Env.get] at h
    | cons u vs =>
      simp only [CO, Bool.and_eq_true, Bool.not_eq_true'] at hnd
      simp only [Nu, jT] at h
      have e : JL (p :: ps) (u :: vs) tmps = JL ps vs (tmps.setIfInBounds p u) := rfl
      rw [e]
      by_cases hs : p = s
      · subst hs
        rw [if_pos rfl] at h
        have hn : p ∉ ps := fun x => by rw [mX.2 x] at hnd; simp at hnd
        rw [KX _ _ _ _ hn]
        have : p < tmps.size := hlt p (by simp)
        simp [this, <- h]
      · rw [if_neg hs] at h
        exact ih vs _ hnd.2 (fun s hs => by simpa using hlt s (by simp [hs])) s v h
end
end Gp
end
