import Derived.Test.YtmcdmhegjhcjhaaGreatRn4
import Derived.Test.YtmcdmhegjhcjhaaGreatBuf
/- A machine that runs closed code over named blocks: its memory stands for the world's. -/
namespace Gp.Rn
open Go Gp

/-! ### Tries -/
theorem Tr.get_zero (v : Option AB) (l r : Tr) : (Tr.nd v l r).get 0 = v := rfl
theorem Tr.get_succ (v : Option AB) (l r : Tr) (m : Nat) : (Tr.nd v l r).get (m + 1) = if m % 2 = 0 then l.get (m / 2) else r.get (m / 2) := by
  show cond (Nat.beq (m % 2) 0) (l.get (m / 2)) (r.get (m / 2)) = _
  by_cases h : m % 2 = 0
  · rw [if_pos h, h]; rfl
  · rw [if_neg h]
    cases hb : Nat.beq (m % 2) 0 with
    | false => rfl
    | true => exact absurd (Nat.eq_of_beq_eq_true hb) h
theorem Tr.get_lf (n : Nat) : Tr.lf.get n = none := rfl

theorem setK_ok : ∀ (f : Nat) (t : Tr) (n : Nat) (v : AB) (k : Tr → Bool), t.setK f n v k = true → ∃ t', k t' = true ∧ t'.get n = some v ∧ ∀ m, m ≠ n → t'.get m = t.get m := by
  intro f
  induction f with
  | zero => intro t n v k h; cases h
  | succ f ih =>
    intro t n v k h
    have key : ∀ (x : Option AB) (l r : Tr), (∀ m, t.get m = (Tr.nd x l r).get m) → (∀ n', n = n' + 1 → cond (Nat.beq (n' % 2) 0) (l.setK f (n' / 2) v fun l' => k (.nd x l' r)) (r.setK f (n' / 2) v fun r' => k (.nd x l r')) = true) →
        (n = 0 → k (.nd (some v) l r) = true) → ∃ t', k t' = true ∧ t'.get n = some v ∧ ∀ m, m ≠ n → t'.get m = t.get m := by
      intro x l r ht hs h0
      cases n with
      | zero =>
        refine ⟨_, h0 rfl, rfl, fun m hm => ?_⟩
        cases m with
        | zero => exact absurd rfl hm
        | succ m => rw [ht, Tr.get_succ, Tr.get_succ]
      | succ n =>
        have hs := hs n rfl
        by_cases hp : n % 2 = 0
        · rw [hp] at hs
          obtain ⟨l', h1, h2, h3⟩ := ih l (n / 2) v _ hs
          refine ⟨_, h1, by rw [Tr.get_succ, if_pos hp, h2], fun m hm => ?_⟩
          rw [ht]
          cases m with
          | zero => rfl
          | succ m =>
            rw [Tr.get_succ, Tr.get_succ]
            by_cases hq : m % 2 = 0
            · rw [if_pos hq, if_pos hq, h3 _ (by omega)]
            · rw [if_neg hq, if_neg hq]
        · have hb : Nat.beq (n % 2) 0 = false := by
            cases hb : Nat.beq (n % 2) 0 with
            | false => rfl
            | true => exact absurd (Nat.eq_of_beq_eq_true hb) hp
          rw [hb] at hs
          obtain ⟨l', h1, h2, h3⟩ := ih r (n / 2) v _ hs
          refine ⟨_, h1, by rw [Tr.get_succ, if_neg hp, h2], fun m hm => ?_⟩
          rw [ht]
          cases m with
          | zero => rfl
          | succ m =>
            rw [Tr.get_succ, Tr.get_succ]
            by_cases hq : m % 2 = 0
            · rw [if_pos hq, if_pos hq]
            · rw [if_neg hq, if_neg hq, h3 _ (by omega)]
    cases t with
    | lf =>
      refine key none .lf .lf (fun m => ?_) (fun n' hn => ?_) fun hn => ?_
      · cases m with
        | zero => rfl
        | succ m => rw [Tr.get_succ]; split <;> rfl
      · subst hn; exact h
      · subst hn; exact h
    | nd x l r =>
      refine key x l r (fun m => rfl) (fun n' hn => ?_) fun hn => ?_
      · subst hn; exact h
      · subst hn; exact h

theorem fN_ok {n : Nat} {k : Nat → Bool} (h : fN n k = true) : k n = true := by cases n <;> exact h
theorem fI_ok {n : Int} {k : Int → Bool} (h : fI n k = true) : k n = true := by
  cases n with
  | ofNat a => exact fN_ok (k := fun a => k (.ofNat a)) h
  | negSucc a => exact fN_ok (k := fun a => k (.negSucc a)) h
theorem fB_ok {n : Bool} {k : Bool → Bool} (h : fB n k = true) : k n = true := by cases n <;> exact h
theorem cond_ok {a b : Bool} (h : cond a b false = true) : a = true ∧ b = true := by cases a <;> first | exact ⟨rfl, h⟩ | cases h

/-! ### Rows -/
def RowF (w : World) (b : Nat) (l : List Value) : Prop := ∃ T fr, w.heap[b]? = some (.cells ⟨l⟩ T fr) ∧ (fr = (0, 0) ∨ l.length ≤ fr.1)
section
variable {w w' : World} {b : Nat} {l : List Value}
theorem RowF.lt (h : RowF w b l) : b < w.heap.size := by
  obtain ⟨T, fr, h, _⟩ := h
  exact (Array.getElem?_eq_some_iff.1 h).1
theorem RowF.cell (h : RowF w b l) (i : Nat) : w.cell? ⟨b, i, none⟩ = l[i]? := by
  obtain ⟨T, fr, h, _⟩ := h
  simp [World.cell?, h]
theorem RowF.frozen (h : RowF w b l) {i : Nat} (hi : i < l.length) : w.frozen? ⟨b, i, none⟩ = false := by
  obtain ⟨T, ⟨lo, hi'⟩, h, g⟩ := h
  simp only [World.frozen?, h]
  rw [Bool.and_eq_false_iff, decide_eq_false_iff_not, decide_eq_false_iff_not]
  rcases g with g | g
  · cases g; omega
  · simp only at g; omega
theorem RowF.unique {l' : List Value} (h : RowF w b l) (h' : RowF w b l') : l = l' := by
  obtain ⟨T, fr, h, _⟩ := h
  obtain ⟨T', fr', h', _⟩ := h'
  rw [h] at h'
  simp at h'
  exact h'.1
theorem RowF.fr {S : Nat → Prop} (h : RowF w b l) (hf : Fr8 w w' S) (hs : ¬ S b) : RowF w' b l := by
  have hl := h.lt
  obtain ⟨T, fr, h, g⟩ := h
  exact ⟨T, fr, (hf.same b hl hs).trans h, g⟩
theorem RowF.new (w : World) (l : List Value) (T : TypeId) (fr : Nat × Nat) (h : l.length ≤ fr.1 ∨ fr = (0, 0)) : RowF (w.alloc (.cells ⟨l⟩ T fr)) w.heap.size l :=
  ⟨T, fr, World.alloc_heap_new w _, h.symm⟩
theorem RowF.set (h : RowF w b l) (i : Nat) (v : Value) : RowF (w.setCell ⟨b, i, none⟩ v) b (l.set i v) := by
  obtain ⟨T, fr, h, g⟩ := h
  refine ⟨T, fr, ?_, by simpa using g⟩
  simp only [World.setCell, Array.getElem?_modify, if_true, h, Option.map_some]
  congr 2
  simp [Array.setIfInBounds]
  intro hx
  rw [List.set_eq_of_length_le hx]

theorem setCells_rowF {b : Nat} : ∀ (vs : List Value) (w : World) (l : List Value) (o i : Nat), RowF w b l → o + i + vs.length ≤ l.length →
    RowF (setCells w ⟨b, o, none⟩ vs i) b (l.take (o + i) ++ vs ++ l.drop (o + i + vs.length)) ∧ (∀ S : Nat → Prop, S b → Fr8 w (setCells w ⟨b, o, none⟩ vs i) S) ∧ (setCells w ⟨b, o, none⟩ vs i).heap.size = w.heap.size := by
  intro vs
  induction vs with
  | nil => intro w l o i hr _; exact ⟨by simpa [setCells] using hr, fun S _ => Fr8.refl _ _, rfl⟩
  | cons v vs ih =>
    intro w l o i hr hl
    simp only [List.length_cons] at hl
    have r1 := hr.set (o + i) v
    obtain ⟨r2, f2, z2⟩ := ih (w.setCell ⟨b, o + i, none⟩ v) _ o (i + 1) r1 (by rw [List.length_set]; omega)
    have e1 : (l.set (o + i) v).take (o + (i + 1)) = l.take (o + i) ++ [v] := by
      rw [← Nat.add_assoc, List.take_succ_eq_append_getElem (by simp; omega), List.take_set_of_le (by omega)]
      simp
    have e2 : (l.set (o + i) v).drop (o + (i + 1) + vs.length) = l.drop (o + i + (vs.length + 1)) := by
      rw [List.drop_set_of_lt (by omega)]
      congr 1; omega
    rw [e1, e2] at r2
    show RowF (setCells (w.setCell ((⟨b, o, none⟩ : Addr).add i) v) ⟨b, o, none⟩ vs (i + 1)) b _ ∧ (∀ S : Nat → Prop, S b → Fr8 w (setCells (w.setCell ((⟨b, o, none⟩ : Addr).add i) v) ⟨b, o, none⟩ vs (i + 1)) S) ∧ _
    have e3 : setCells w ⟨b, o, none⟩ (v :: vs) i = setCells (w.setCell ((⟨b, o, none⟩ : Addr).add i) v) ⟨b, o, none⟩ vs (i + 1) := rfl
    rw [e3, add_mk]
    exact ⟨by simpa using r2, fun S hs => (Fr8.set w ⟨b, o + i, none⟩ v hs).trans (f2 S hs) fun _ _ e => e, by rw [z2]; simp⟩

theorem StN_rowF {K : World → Prop} : ∀ (vs : List Value) (w : World) (l : List Value) (o i : Nat), RowF w b l → (∀ v ∈ vs, isOne v = true) → o + i + vs.length ≤ l.length →
    K (setCells w ⟨b, o, none⟩ vs i) → StN vs w ⟨b, o, none⟩ i K := by
  intro vs
  induction vs with
  | nil => intro w l o i _ _ _ h; exact h
  | cons v vs ih =>
    intro w l o i hr h1 hl h
    simp only [List.length_cons] at hl
    show Gp.St w ((⟨b, o, none⟩ : Addr).add i) v _
    have e3 : setCells w ⟨b, o, none⟩ (v :: vs) i = setCells (w.setCell ((⟨b, o, none⟩ : Addr).add i) v) ⟨b, o, none⟩ vs (i + 1) := rfl
    rw [e3, add_mk] at h
    rw [add_mk]
    refine ⟨h1 v (List.mem_cons_self ..), by rw [hr.cell]; simp; omega, hr.frozen (by omega), ih _ _ o (i + 1) (hr.set (o + i) v) (fun u hu => h1 u (List.mem_cons_of_mem _ hu)) (by rw [List.length_set]; omega) h⟩
end

/-! ### Blocks -/
def codeJ : Jmp → Option Code
  | .no => none
  | .ret => some .ret
  | .ex id => some (.exit id)

/-- What a loop's predicate keeps. -/
structure LOk (x : Loc) : Prop where
  frame : ∀ st p W W', x.L st p W → W'.heap[x.b]? = W.heap[x.b]? → x.L st p W'
  set : ∀ st p st' p' W, x.L st p W → x.L st' p' (setLoop W x.b st' p')
  busy : ∀ p W, x.L .ready p W → x.L .busy p (busyW W x.b)
  isLoop : ∀ st p W, x.L st p W → ∃ lp, W.heap[x.b]? = some (.loop lp)

inductive EsR (ρ : Nm) : List (AV × AV × Nat) → List MapEntry → Prop
  | nil : EsR ρ [] []
  | cons {a v n e es es'} (h : VR ρ a e.key) (h' : VR ρ v e.val) (hn : e.born = n) (hr : EsR ρ es es') : EsR ρ ((a, v, n) :: es) (e :: es')

def BR (ρ : Nm) (w : World) (x : Loc) : AB → Prop
  | .row cs z p => ∃ vs pad, VsR ρ cs vs ∧ RowF w x.b (vs ++ pad) ∧ cond p (x.c * z = vs.length + pad.length) (pad = [])
  | .map es c => ∃ es', w.heap[x.b]? = some (.map ⟨es'⟩ c) ∧ EsR ρ es es'
  | .iter none _ _ _ => ∃ s sn c, w.heap[x.b]? = some (.mapIter none s sn c)
  | .iter (some m) since seen c => ∃ y, ρ m = some y ∧ w.heap[x.b]? = some (.mapIter (some y.b) since ⟨seen⟩ c) ∧ since ≤ c
  | .loop st j => x.L st (codeJ j) w ∧ LOk x
  | .mark => w.heap[x.b]? = some (.deferred (some []))
  | .dead => True

section
variable {ρ ρ' : Nm} {w w' : World}
theorem EsR.mono {a : List (AV × AV × Nat)} {b : List MapEntry} (h : EsR ρ a b) (hl : Le ρ ρ') : EsR ρ' a b := by
  induction h with
  | nil => exact .nil
  | cons h h' hn _ ih => exact .cons (h.mono hl) (h'.mono hl) hn ih

theorem BR.mono {x : Loc} {a : AB} (h : BR ρ w x a) (hl : Le ρ ρ') : BR ρ' w x a := by
  cases a with
  | row cs z p => obtain ⟨vs, pad, h1, h2⟩ := h; exact ⟨vs, pad, h1.mono hl, h2⟩
  | map es c => obtain ⟨es', h1, h2⟩ := h; exact ⟨es', h1, h2.mono hl⟩
  | iter m s n c => cases m with
    | none => exact h
    | some m => obtain ⟨y, h1, h2⟩ := h; exact ⟨y, hl _ _ h1, h2⟩
  | loop st j => exact h
  | mark => exact h
  | dead => trivial

theorem BR.same {x : Loc} {a : AB} (h : BR ρ w x a) (he : w'.heap[x.b]? = w.heap[x.b]?) : BR ρ w' x a := by
  cases a with
  | row cs z p =>
    obtain ⟨vs, pad, h1, ⟨T, fr, h2, h3⟩, h4⟩ := h
    exact ⟨vs, pad, h1, ⟨T, fr, he.trans h2, h3⟩, h4⟩
  | map es c => obtain ⟨es', h1, h2⟩ := h; exact ⟨es', he.trans h1, h2⟩
  | iter m s n c => cases m with
    | none => obtain ⟨a, b, c, h1⟩ := h; exact ⟨a, b, c, he.trans h1⟩
    | some m => obtain ⟨y, h1, h2, h3⟩ := h; exact ⟨y, h1, he.trans h2, h3⟩
  | loop st j => exact ⟨h.2.frame _ _ _ _ h.1 he, h.2⟩
  | mark => exact he.trans h
  | dead => trivial

def live : AB → Prop
  | .dead => False
  | _ => True

/-- The machine's memory stands for the world's. -/
structure Rel (w0 : World) (ρ : Nm) (s : St) (w : World) : Prop where
  dom : ∀ i a, s.h.get i = some a → ∃ x, ρ i = some x
  fresh : ∀ i, s.h.get i = none → ρ i = none
  br : ∀ i a x, s.h.get i = some a → ρ i = some x → BR ρ w x a
  new : ∀ i x, ρ i = some x → w0.heap.size ≤ x.b ∧ x.b < w.heap.size
  inj : ∀ i j a b x y, s.h.get i = some a → s.h.get j = some b → live a → live b → ρ i = some x → ρ j = some y → x.b = y.b → i = j
  ext : Ext w0 w

theorem Rel.names {w0 : World} {s : St} (h : Rel w0 ρ s w) {n : Nat} : Rel w0 ρ ⟨s.h, n⟩ w := ⟨h.dom, h.fresh, h.br, h.new, h.inj, h.ext⟩

theorem Rel.drew {w0 : World} {s : St} (h : Rel w0 ρ s w) : Rel w0 ρ s w.drew :=
  ⟨h.dom, h.fresh, fun i a x h1 h2 => (h.br i a x h1 h2).same rfl, h.new, h.inj, h.ext.trans (Ext.drew w)⟩

/-- What loops are stays. -/
def Lp (ρ : Nm) (s : St) (w : World) (s' : St) (w' : World) : Prop := ∀ i x st p, s.h.get i = some (.loop st p) → ρ i = some x → s'.h.get i = some (.loop st p) ∧ w'.heap[x.b]? = w.heap[x.b]?
theorem Lp.refl (ρ : Nm) (s : St) (w : World) : Lp ρ s w s w := fun _ _ _ _ h _ => ⟨h, rfl⟩
theorem Lp.trans {s s' s'' : St} {w'' : World} (h : Lp ρ s w s' w') (h' : Lp ρ' s' w' s'' w'') (hl : Le ρ ρ') : Lp ρ s w s'' w'' := fun i x st p h1 h2 => by
  obtain ⟨a, b⟩ := h i x st p h1 h2
  obtain ⟨c, d⟩ := h' i x st p a (hl _ _ h2)
  exact ⟨c, d.trans b⟩

/-- A new name. -/
def upd (ρ : Nm) (i : Nat) (x : Loc) : Nm := fun j => if j = i then some x else ρ j
theorem upd_self (ρ : Nm) (i : Nat) (x : Loc) : upd ρ i x i = some x := if_pos rfl
theorem upd_le {i : Nat} (h : ρ i = none) (x : Loc) : Le ρ (upd ρ i x) := fun j y g => by
  unfold upd
  rw [if_neg (fun e => by rw [e, h] at g; cases g)]
  exact g

section
variable {w0 : World} {s s' : St} {i : Nat} {a : AB} {x : Loc}

/-- A block is new: a new name for it; the block lies where none of the living lies. -/
theorem Rel.add (h : Rel w0 ρ s w) (h0 : s.h.get i = none) (h1 : s'.h.get i = some a) (h2 : ∀ j, j ≠ i → s'.h.get j = s.h.get j) (hx : w0.heap.size ≤ x.b ∧ x.b < w'.heap.size)
    (hb : BR (upd ρ i x) w' x a) (ho : ∀ j b y, s.h.get j = some b → ρ j = some y → BR ρ w' y b) (hd : ∀ j b y, s.h.get j = some b → live b → ρ j = some y → y.b ≠ x.b) (hz : w.heap.size ≤ w'.heap.size) (he : Ext w0 w') :
    Rel w0 (upd ρ i x) s' w' ∧ Le ρ (upd ρ i x) := by
  have hi := h.fresh i h0
  have hl := upd_le hi x
  refine ⟨⟨fun j b g => ?_, fun j g => ?_, fun j b y g g' => ?_, fun j y g => ?_, fun j k b c y z g1 g2 l1 l2 g3 g4 e => ?_, he⟩, hl⟩
  · by_cases hj : j = i
    · exact ⟨x, by rw [hj]; exact upd_self ρ i x⟩
    · rw [h2 j hj] at g
      obtain ⟨y, hy⟩ := h.dom j b g
      exact ⟨y, hl _ _ hy⟩
  · by_cases hj : j = i
    · rw [hj, h1] at g; cases g
    · rw [h2 j hj] at g
      unfold upd
      rw [if_neg hj]
      exact h.fresh j g
  · by_cases hj : j = i
    · subst hj
      rw [h1] at g
      rw [upd_self] at g'
      cases g; cases g'
      exact hb
    · rw [h2 j hj] at g
      unfold upd at g'
      rw [if_neg hj] at g'
      exact (ho j b y g g').mono hl
  · unfold upd at g
    split at g
    · cases g; exact hx
    · have := h.new j y g
      exact ⟨this.1, by omega⟩
  · have hu : ∀ j y, j ≠ i → upd ρ i x j = some y → ρ j = some y := fun j y hj g => by unfold upd at g; rwa [if_neg hj] at g
    by_cases hj : j = i
    · by_cases hk : k = i
      · rw [hj, hk]
      · subst hj
        rw [upd_self] at g3
        cases g3
        rw [h2 k hk] at g2
        exact absurd e.symm (hd k c z g2 l2 (hu k z hk g4))
    · by_cases hk : k = i
      · subst hk
        rw [upd_self] at g4
        cases g4
        rw [h2 j hj] at g1
        exact absurd e (hd j b y g1 l1 (hu j y hj g3))
      · rw [h2 j hj] at g1
        rw [h2 k hk] at g2
        exact h.inj j k b c y z g1 g2 l1 l2 (hu j y hj g3) (hu k z hk g4) e

/-- A block that the world has laid behind all others. -/
theorem Rel.alloc {o : Obj} (h : Rel w0 ρ s w) (h0 : s.h.get i = none) (h1 : s'.h.get i = some a) (h2 : ∀ j, j ≠ i → s'.h.get j = s.h.get j) (hb : x.b = w.heap.size) (hB : ∀ ρ', Le ρ ρ' → ρ' i = some x → BR ρ' (w.alloc o) x a) :
    Rel w0 (upd ρ i x) s' (w.alloc o) ∧ Le ρ (upd ρ i x) ∧ Lp ρ s w s' (w.alloc o) := by
  have hf : Ext w (w.alloc o) := fun S => Fr8.alloc w o S
  have hz : (w.alloc o).heap.size = w.heap.size + 1 := by simp
  have hs : ∀ b, b < w.heap.size → (w.alloc o).heap[b]? = w.heap[b]? := fun b hb' => (hf fun _ => False).same b hb' (by simp)
  have he := h.ext.size
  have hl := upd_le (h.fresh i h0) x
  obtain ⟨r1, r2⟩ := h.add (w' := w.alloc o) h0 h1 h2 ⟨by omega, by omega⟩ (hB _ hl (upd_self ρ i x)) (fun j b y g g' => (h.br j b y g g').same (hs _ (h.new j y g').2)) (fun j b y g _ g' => by have := (h.new j y g').2; omega) (by omega) (h.ext.trans hf)
  refine ⟨r1, r2, fun j y st p g g' => ⟨?_, hs _ (h.new j y g').2⟩⟩
  rw [h2 j fun e => by rw [e, h0] at g; cases g]
  exact g

/-- A block is changed. -/
theorem Rel.chg {b : AB} (h : Rel w0 ρ s w) (hx : ρ i = some x) (h0 : s.h.get i = some b) (hlb : live b) (h1 : s'.h.get i = some a) (h2 : ∀ j, j ≠ i → s'.h.get j = s.h.get j) (hf : Fr8 w w' (· = x.b)) (hB : BR ρ w' x a) : Rel w0 ρ s' w' := by
  have hn := h.new i x hx
  refine ⟨fun j c g => ?_, fun j g => ?_, fun j c y g g' => ?_, fun j y g => ?_, fun j k c d y z g1 g2 l1 l2 g3 g4 e => ?_, h.ext.new hf fun c hc e => by omega⟩
  · by_cases hj : j = i
    · exact ⟨x, by rw [hj]; exact hx⟩
    · rw [h2 j hj] at g; exact h.dom j c g
  · by_cases hj : j = i
    · rw [hj, h1] at g; cases g
    · rw [h2 j hj] at g; exact h.fresh j g
  · by_cases hj : j = i
    · subst hj
      rw [h1] at g
      rw [hx] at g'
      cases g; cases g'
      exact hB
    · rw [h2 j hj] at g
      cases c with
      | dead => trivial
      | _ =>
        refine (h.br j _ y g g').same (hf.same _ (h.new j y g').2 fun e => hj ?_)
        exact h.inj j i _ b y x g h0 trivial hlb g' hx e
  · have := h.new j y g
    have := hf.size
    omega
  · by_cases hj : j = i
    · by_cases hk : k = i
      · rw [hj, hk]
      · subst hj
        rw [h2 k hk] at g2
        exact h.inj j k b d y z h0 g2 hlb l2 g3 g4 e
    · by_cases hk : k = i
      · subst hk
        rw [h2 j hj] at g1
        exact h.inj j k c b y z g1 h0 l1 hlb g3 g4 e
      · rw [h2 j hj] at g1
        rw [h2 k hk] at g2
        exact h.inj j k c d y z g1 g2 l1 l2 g3 g4 e

def noLoop : AB → Prop
  | .loop _ _ => False
  | _ => True

theorem Rel.chgL {b : AB} (h : Rel w0 ρ s w) (hx : ρ i = some x) (h0 : s.h.get i = some b) (hlb : live b) (hnl : noLoop b) (h2 : ∀ j, j ≠ i → s'.h.get j = s.h.get j) (hf : Fr8 w w' (· = x.b)) : Lp ρ s w s' w' := fun j y st p g g' => by
  have hj : j ≠ i := fun e => by rw [e, h0] at g; cases g; exact hnl
  refine ⟨by rw [h2 j hj]; exact g, hf.same _ (h.new j y g').2 fun e => hj ?_⟩
  exact h.inj j i _ b y x g h0 trivial hlb g' hx e

/-- A block is known no more. -/
theorem Rel.kill {b : AB} (h : Rel w0 ρ s w) (h0 : s.h.get i = some b) (h1 : s'.h.get i = some .dead) (h2 : ∀ j, j ≠ i → s'.h.get j = s.h.get j) : Rel w0 ρ s' w := by
  refine ⟨fun j c g => ?_, fun j g => ?_, fun j c y g g' => ?_, h.new, fun j k c d y z g1 g2 l1 l2 g3 g4 e => ?_, h.ext⟩
  · by_cases hj : j = i
    · rw [hj]; exact h.dom i b h0
    · rw [h2 j hj] at g; exact h.dom j c g
  · by_cases hj : j = i
    · rw [hj, h1] at g; cases g
    · rw [h2 j hj] at g; exact h.fresh j g
  · by_cases hj : j = i
    · subst hj
      rw [h1] at g
      cases g
      trivial
    · rw [h2 j hj] at g; exact h.br j c y g g'
  · have hj : j ≠ i := fun e => by rw [e, h1] at g1; cases g1; exact l1
    have hk : k ≠ i := fun e => by rw [e, h1] at g2; cases g2; exact l2
    rw [h2 j hj] at g1
    rw [h2 k hk] at g2
    exact h.inj j k c d y z g1 g2 l1 l2 g3 g4 e
end

theorem newB_ok {s : St} {b : AB} {k : Nat → St → Bool} (h : newB s b k = true) : ∃ i s', k i s' = true ∧ s.h.get i = none ∧ s'.h.get i = some b ∧ ∀ j, j ≠ i → s'.h.get j = s.h.get j := by
  unfold newB at h
  split at h
  · rename_i hn
    obtain ⟨t, h1, h2, h3⟩ := setK_ok _ _ _ _ _ h
    exact ⟨s.n, _, fN_ok h1, hn, h2, h3⟩
  · cases h
theorem putB_ok {s : St} {i : Nat} {b : AB} {k : St → Bool} (h : putB s i b k = true) : ∃ s', k s' = true ∧ s'.h.get i = some b ∧ ∀ j, j ≠ i → s'.h.get j = s.h.get j := by
  unfold putB at h
  obtain ⟨t, h1, h2, h3⟩ := setK_ok _ _ _ _ _ h
  exact ⟨_, h1, h2, h3⟩
end
end Gp.Rn
