import Derived.Test.YtmcdmhegjhcjhaaGreatRn3
import Derived.Test.YtmcdmhegjhcjhaaGreatExt
/- A machine that runs closed code over named blocks: what the names stand for. -/
namespace Gp.Rn
open Go Gp

/-- Where a block lies; how many elements it has room for; what its loop counts on. -/
structure Loc where
  b : Nat
  c : Nat
  L : LoopState → Option Code → World → Prop
abbrev Nm := Nat → Option Loc
def Le (ρ ρ' : Nm) : Prop := ∀ i x, ρ i = some x → ρ' i = some x
theorem Le.refl (ρ : Nm) : Le ρ ρ := fun _ _ h => h
theorem Le.trans {ρ ρ' ρ'' : Nm} (h : Le ρ ρ') (h' : Le ρ' ρ'') : Le ρ ρ'' := fun i x g => h' i x (h i x g)

mutual
inductive VR (ρ : Nm) : AV → Value → Prop
  | int (k n) : VR ρ (.int k n) (.int k n)
  | bool (b) : VR ρ (.bool b) (.bool b)
  | str (s) : VR ρ (.str s) (.string s)
  | ptr0 : VR ρ .ptr0 (.pointer none)
  | ptr {i o x} (h : ρ i = some x) : VR ρ (.ptr i o) (.pointer (some ⟨x.b, o, none⟩))
  | sl0 : VR ρ .sl0 (.slice none 0 0)
  | sl {i o n c x} (h : ρ i = some x) : VR ρ (.sl i o n c) (.slice (some ⟨x.b, o, none⟩) n c)
  | slo {i o n d x} (h : ρ i = some x) : VR ρ (.slo i o n d) (.slice (some ⟨x.b, o, none⟩) n (x.c - d))
  | slE {i x} (h : ρ i = some x) (o c) : VR ρ (.slE i) (.slice (some ⟨x.b, o, none⟩) 0 c)
  | map0 : VR ρ .map0 (.map none)
  | map {i x} (h : ρ i = some x) : VR ρ (.map i) (.map (some x.b))
  | fn (f) {a a' b b'} (h : VsR ρ a a') (h' : VsR ρ b b') : VR ρ (.fn f a b) (.func (.func f) ⟨a'⟩ ⟨b'⟩)
  | yld {i x} (h : ρ i = some x) : VR ρ (.yld i) (.func (.yield x.b) #[] #[])
  | agg {a a'} (h : VsR ρ a a') : VR ρ (.agg a) (.agg ⟨a'⟩)
  | tup {a a'} (h : VsR ρ a a') : VR ρ (.tup a) (.tuple ⟨a'⟩)
  | nilF : VR ρ .nilF .nilFunc
  | nilI : VR ρ .nilI .nilIface
inductive VsR (ρ : Nm) : List AV → List Value → Prop
  | nil : VsR ρ [] []
  | cons {a v as vs} (h : VR ρ a v) (h' : VsR ρ as vs) : VsR ρ (a :: as) (v :: vs)
end

section
variable {ρ ρ' : Nm}

theorem VR.mono {a : AV} {v : Value} (h : VR ρ a v) (hl : Le ρ ρ') : VR ρ' a v := by
  refine VR.rec (motive_1 := fun a v _ => VR ρ' a v) (motive_2 := fun a v _ => VsR ρ' a v) ?_ ?_ ?_ ?_ ?_ ?_ ?_ ?_ ?_ ?_ ?_ ?_ ?_ ?_ ?_ ?_ ?_ ?_ ?_ h
  · exact fun k n => .int k n
  · exact fun b => .bool b
  · exact fun b => .str b
  · exact .ptr0
  · exact fun h => .ptr (hl _ _ h)
  · exact .sl0
  · exact fun h => .sl (hl _ _ h)
  · exact fun h => .slo (hl _ _ h)
  · exact fun h o c => .slE (hl _ _ h) o c
  · exact .map0
  · exact fun h => .map (hl _ _ h)
  · exact fun f _ _ _ _ _ _ h h' => .fn f h h'
  · exact fun h => .yld (hl _ _ h)
  · exact fun _ h => .agg h
  · exact fun _ h => .tup h
  · exact .nilF
  · exact .nilI
  · exact .nil
  · exact fun _ _ h h' => .cons h h'

theorem VsR.iff {a : List AV} {v : List Value} : VsR ρ a v ↔ a.length = v.length ∧ ∀ (i : Nat) (x : AV) (y : Value), a[i]? = some x → v[i]? = some y → VR ρ x y := by
  constructor
  · intro h
    induction a generalizing v with
    | nil => cases h; exact ⟨rfl, fun i x y hx => by simp at hx⟩
    | cons x a ih =>
      cases h with
      | cons h h' =>
        obtain ⟨l, g⟩ := ih h'
        refine ⟨by simp [l], fun i y z hy hz => ?_⟩
        cases i with
        | zero => simp at hy hz; subst hy hz; exact h
        | succ i => exact g i y z (by simpa using hy) (by simpa using hz)
  · intro ⟨l, g⟩
    induction a generalizing v with
    | nil => cases v with
      | nil => exact .nil
      | cons y v => simp at l
    | cons x a ih => cases v with
      | nil => simp at l
      | cons y v => exact .cons (g 0 x y rfl rfl) (ih (by simpa using l) fun i z u hz hu => g (i + 1) z u (by simpa using hz) (by simpa using hu))

theorem VsR.mono {a : List AV} {v : List Value} (h : VsR ρ a v) (hl : Le ρ ρ') : VsR ρ' a v := by
  rw [VsR.iff] at h ⊢
  exact ⟨h.1, fun i x y hx hy => (h.2 i x y hx hy).mono hl⟩
theorem VsR.len {a : List AV} {v : List Value} (h : VsR ρ a v) : a.length = v.length := (VsR.iff.1 h).1
theorem VsR.get {a : List AV} {v : List Value} (h : VsR ρ a v) {i : Nat} {x : AV} (hx : a[i]? = some x) : ∃ y, v[i]? = some y ∧ VR ρ x y := by
  obtain ⟨l, g⟩ := VsR.iff.1 h
  have hi := (List.getElem?_eq_some_iff.1 hx).1
  exact ⟨_, List.getElem?_eq_getElem (by omega), g i x _ hx (List.getElem?_eq_getElem (by omega))⟩
theorem VsR.get_none {a : List AV} {v : List Value} (h : VsR ρ a v) {i : Nat} (hx : a[i]? = none) : v[i]? = none := by
  rw [List.getElem?_eq_none_iff] at hx ⊢
  rw [← h.len]; exact hx
theorem VsR.app {a b : List AV} {v u : List Value} (h : VsR ρ a v) (h' : VsR ρ b u) : VsR ρ (a ++ b) (v ++ u) := by
  induction a generalizing v with
  | nil => cases h; exact h'
  | cons x a ih => cases h with | cons g g' => exact .cons g (ih g')
theorem VsR.take {a : List AV} {v : List Value} (h : VsR ρ a v) (n : Nat) : VsR ρ (a.take n) (v.take n) := by
  induction n generalizing a v with
  | zero => simp; exact .nil
  | succ n ih => cases h with
    | nil => simp; exact .nil
    | cons g g' => simp; exact .cons g (ih g')
theorem VsR.drop {a : List AV} {v : List Value} (h : VsR ρ a v) (n : Nat) : VsR ρ (a.drop n) (v.drop n) := by
  induction n generalizing a v with
  | zero => exact h
  | succ n ih => cases h with
    | nil => simp; exact .nil
    | cons g g' => simp; exact ih g'
theorem VsR.set {a : List AV} {v : List Value} (h : VsR ρ a v) (i : Nat) {x : AV} {y : Value} (hx : VR ρ x y) : VsR ρ (a.set i x) (v.set i y) := by
  induction a generalizing v i with
  | nil => cases h; exact .nil
  | cons z a ih => cases h with
    | cons g g' => cases i with
      | zero => exact .cons hx g'
      | succ i => exact .cons g (ih g' i)
theorem VsR.rep {a : List AV} {v : List Value} (h : VsR ρ a v) : ∀ n, VsR ρ (repA a n) (repCells v n)
  | 0 => .nil
  | n + 1 => h.app (VsR.rep h n)
theorem VsR.map {α : Type} {l : List α} {f : α → AV} {g : α → Value} (h : ∀ x ∈ l, VR ρ (f x) (g x)) : VsR ρ (l.map f) (l.map g) := by
  induction l with
  | nil => exact .nil
  | cons x l ih => exact .cons (h x (List.mem_cons_self ..)) (ih fun y hy => h y (List.mem_cons_of_mem _ hy))

theorem leafA_ok {v : Value} {a : AV} (h : leafA v = some a) : VR ρ a v := by
  unfold leafA at h
  split at h <;> first | (cases h; constructor) | cases h

theorem leavesA_ok : ∀ {v : List Value} {a : List AV}, leavesA v = some a → VsR ρ a v
  | [], _, h => by cases h; exact .nil
  | x :: v, a, h => by
    unfold leavesA at h
    split at h
    · rename_i y l hy hl
      cases h
      exact .cons (leafA_ok hy) (leavesA_ok hl)
    · cases h

theorem constA_ok {v : Value} {a : AV} (h : constA v = some a) : VR ρ a v := by
  unfold constA at h
  split at h
  · split at h
    · rename_i cs l hl
      cases h
      have := leavesA_ok (ρ := ρ) hl
      exact .agg this
    · cases h
  · split at h
    · rename_i vs _ hv
      cases h
      obtain ⟨vs⟩ := vs
      have : vs = [] := hv
      subst this
      exact .tup .nil
    · cases h
  · exact leafA_ok h

theorem one_ok {a : AV} {v : Value} (h : VR ρ a v) (h1 : one a = true) : isOne v = true := by
  cases h <;> first | rfl | cases h1
theorem allOne_ok : ∀ {a : List AV} {v : List Value}, VsR ρ a v → allOneA a = true → ∀ x ∈ v, isOne x = true
  | [], _, h, _ => by cases h; simp
  | y :: a, _, h, h1 => by
    cases h with
    | cons g g' =>
      unfold allOneA at h1
      rw [Bool.and_eq_true] at h1
      intro x hx
      rcases List.mem_cons.1 hx with rfl | hx
      · exact one_ok g h1.1
      · exact allOne_ok g' h1.2 x hx

theorem ikEq_eq {a b : IntKind} (h : ikEq a b = true) : a = b := by cases a <;> cases b <;> first | rfl | cases h

theorem kOk_ok {k : Kind} {a : AV} {v : Value} (h : VR ρ a v) (h1 : kOk k a = true) : ∃ x : k.T, v = k.enc x := by
  cases k with
  | any => exact ⟨v, rfl⟩
  | int k => cases h <;> first | (rename_i k' n; cases ikEq_eq h1; exact ⟨n, rfl⟩) | cases h1
  | bool => cases h <;> first | exact ⟨_, rfl⟩ | cases h1
  | str => cases h <;> first | exact ⟨_, rfl⟩ | cases h1
  | ptr => cases h <;> first | exact ⟨_, rfl⟩ | cases h1
  | slice => cases h <;> first | exact ⟨⟨_, _, _⟩, rfl⟩ | cases h1
  | map => cases h <;> first | exact ⟨_, rfl⟩ | cases h1

theorem ksOk_ex : ∀ {ks : List Kind} {a : List AV} {v : List Value} {φ : List Value → Prop}, VsR ρ a v → ksOk ks a = true → φ v → exKs ks φ
  | [], [], _, φ, h, _, hp => by cases h; exact hp
  | [], _ :: _, _, _, _, h1, _ => by cases h1
  | _ :: _, [], _, _, _, h1, _ => by cases h1
  | k :: ks, x :: a, _, φ, h, h1, hp => by
    cases h with
    | cons g g' =>
      unfold ksOk at h1
      rw [Bool.and_eq_true] at h1
      obtain ⟨y, rfl⟩ := kOk_ok g h1.1
      exact ⟨y, ksOk_ex g' h1.2 hp⟩

theorem shOk_ex {sh : Shape} {a : AV} {v : Value} {φ : Value → Prop} (h : VR ρ a v) (h1 : shOk sh a = true) (hp : φ v) : sh.ex φ := by
  cases sh with
  | one k =>
    obtain ⟨x, rfl⟩ := kOk_ok h h1
    exact ⟨x, hp⟩
  | agg ks => cases h with
    | agg g => exact ksOk_ex g h1 hp
    | _ => cases h1

theorem shsOk_ex : ∀ {sh : List Shape} {a : List AV} {v : List Value} {φ : List Value → Prop}, VsR ρ a v → shsOk sh a = true → φ v → exShapes sh φ
  | [], [], _, φ, h, _, hp => by cases h; exact hp
  | [], _ :: _, _, _, _, h1, _ => by cases h1
  | _ :: _, [], _, _, _, h1, _ => by cases h1
  | s :: sh, x :: a, _, φ, h, h1, hp => by
    cases h with
    | cons g g' =>
      unfold shsOk at h1
      rw [Bool.and_eq_true] at h1
      exact shOk_ex g h1.1 (φ := fun v => exShapes sh fun vs => φ (v :: vs)) (shsOk_ex g' h1.2 hp)

theorem tupA_ok {a : List AV} {v : List Value} (h : VsR ρ a v) : VR ρ (tupA a) (tup v) := by
  cases h with
  | nil => exact .tup .nil
  | cons g g' => cases g' with
    | nil => exact g
    | cons g1 g2 => exact .tup (.cons g (.cons g1 g2))

/-! ### Environments -/
theorem AE.get_nil (t : Nat) : AE.get [] t = none := rfl
theorem AE.get_cons (s : Nat) (v : AV) (r : AE) (t : Nat) : AE.get ((s, v) :: r) t = if s = t then some v else AE.get r t := by
  show (Bool.rec (AE.get r t) (some v) (Nat.beq s t) : Option AV) = _
  by_cases h : s = t
  · rw [if_pos h, show Nat.beq s t = true from h ▸ Nat.beq_refl s]
  · rw [if_neg h]
    cases hb : Nat.beq s t with
    | false => rfl
    | true => exact absurd (Nat.eq_of_beq_eq_true hb) h

def ER (ρ : Nm) (e : AE) (env : Env) : Prop := ∀ t v, e.get t = some v → ∃ u, env.get t = some u ∧ VR ρ v u
theorem ER.mono {e : AE} {env : Env} (h : ER ρ e env) (hl : Le ρ ρ') : ER ρ' e env := fun t v g => by
  obtain ⟨u, h1, h2⟩ := h t v g
  exact ⟨u, h1, h2.mono hl⟩
theorem ER.nil {env : Env} : ER ρ [] env := fun t v h => by rw [AE.get_nil] at h; cases h
theorem ER.cons {e : AE} {env : Env} (h : ER ρ e env) {v : AV} {u : Value} (hv : VR ρ v u) (s : Nat) : ER ρ ((s, v) :: e) ((s, u) :: env) := fun t x g => by
  rw [AE.get_cons] at g
  rw [get_cons]
  split at g
  · cases g
    rw [if_pos (by assumption)]
    exact ⟨u, rfl, hv⟩
  · rw [if_neg (by assumption)]
    exact h t x g
theorem ER.put {e : AE} {env : Env} (h : ER ρ e env) (d : Option Nat) {v : AV} {u : Value} (hv : VR ρ v u) : ER ρ (e.put d v) (env.put d u) := by
  cases d with
  | none => exact h
  | some s => exact h.cons hv s

theorem evA_ok {e : AE} {env : Env} (h : ER ρ e env) {x : Operand} {a : AV} (hx : evA e x = some a) : ∃ v, evO env x = some v ∧ VR ρ a v := by
  cases x with
  | tmp t => exact h t a hx
  | const v => exact ⟨v, rfl, constA_ok hx⟩
  | global g => cases hx
  | func f => cases hx; exact ⟨_, rfl, .fn f .nil .nil⟩

theorem evs_ok {e : AE} {env : Env} (h : ER ρ e env) : ∀ {l : List Operand} {as : List AV}, evs e l = some as → defd env l = true ∧ ∀ x ∈ l, VR ρ ((evA e x).getD (.tup [])) (ev env x)
  | [], _, _ => ⟨rfl, by simp⟩
  | x :: l, as, g => by
    unfold evs at g
    split at g
    · rename_i a m ha hm
      obtain ⟨g1, g2⟩ := evs_ok h hm
      obtain ⟨v, hv, hr⟩ := evA_ok h ha
      refine ⟨by unfold defd; rw [hv, g1]; rfl, fun y hy => ?_⟩
      rcases List.mem_cons.1 hy with rfl | hy
      · rw [ha]
        unfold ev
        rw [hv]
        exact hr
      · exact g2 y hy
    · cases g
end
end Gp.Rn
