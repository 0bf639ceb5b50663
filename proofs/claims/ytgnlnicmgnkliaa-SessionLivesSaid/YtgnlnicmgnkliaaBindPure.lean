import Derived.Test.YtgnlnicmgnkliaaV4Pure
/- Bindings in slots, and the document's list of them: no program in sight. -/
namespace Gp.Bind
open Gp.V4

def keyB (l : List Int) : List UInt8 := l.flatMap fun n => beN 8 (n % 18446744073709551616).toNat
def keyS (l : List Int) : ByteArray := ⟨⟨keyB l⟩⟩
def In64 (n : Int) : Prop := -9223372036854775808 ≤ n ∧ n ≤ 9223372036854775807

theorem keyB_len (l : List Int) : (keyB l).length = l.length * 8 := by
  induction l with
  | nil => rfl
  | cons n l ih =>
    have : keyB (n :: l) = beN 8 (n % 18446744073709551616).toNat ++ keyB l := rfl
    rw [this, List.length_append, beN_len, ih, List.length_cons]; omega

theorem keyB_inj : ∀ {l m : List Int}, l.length = m.length → (∀ n ∈ l, In64 n) → (∀ n ∈ m, In64 n) → keyB l = keyB m → l = m
  | [], [], _, _, _, _ => rfl
  | [], _ :: _, h, _, _, _ => by simp at h
  | _ :: _, [], h, _, _, _ => by simp at h
  | a :: l, b :: m, h, hl, hm, he => by
    have he : beN 8 (a % 18446744073709551616).toNat ++ keyB l = beN 8 (b % 18446744073709551616).toNat ++ keyB m := he
    obtain ⟨h1, h2⟩ := List.append_inj he (by simp [beN_len])
    have h3 := congrArg numBE h1
    rw [numBE_beN, numBE_beN] at h3
    have e : (256 : Nat) ^ 8 = 18446744073709551616 := by decide
    rw [e] at h3
    have ha := hl a (List.mem_cons_self ..)
    have hb := hm b (List.mem_cons_self ..)
    obtain ⟨ha1, ha2⟩ := ha
    obtain ⟨hb1, hb2⟩ := hb
    have hab : a = b := by omega
    rw [hab, keyB_inj (by simpa using h) (fun n hn => hl n (List.mem_cons_of_mem _ hn)) (fun n hn => hm n (List.mem_cons_of_mem _ hn)) h2]

theorem keyS_inj {l m : List Int} (h : l.length = m.length) (hl : ∀ n ∈ l, In64 n) (hm : ∀ n ∈ m, In64 n) (he : keyS l = keyS m) : l = m := by
  refine keyB_inj h hl hm ?_
  unfold keyS at he
  injection he with he
  injection he

structure Bnd where
  sw : Int
  pr : Int
  ad : Int
  po : Int
  opr : Int
  oad : Int
  opo : Int
  st : Bool
deriving DecidableEq

def Bnd.i (b : Bnd) : List Int := [b.sw, b.pr, b.ad, b.po]
def Bnd.o (b : Bnd) : List Int := [b.opr, b.oad, b.opo]
def Bnd.ok (b : Bnd) : Prop := (∀ n ∈ b.i, In64 n) ∧ ∀ n ∈ b.o, In64 n

abbrev Slots := List (Option Bnd)

/-- The bindings with their numbers. -/
def live : Nat → Slots → List (Int × Bnd)
  | _, [] => []
  | i, none :: r => live (i + 1) r
  | i, some b :: r => ((i : Int), b) :: live (i + 1) r

theorem mem_live : ∀ {S : Slots} {k : Nat} {v : Int} {b : Bnd}, (v, b) ∈ live k S ↔ ∃ i : Nat, S[i]? = some (some b) ∧ v = ((k + i : Nat) : Int)
  | [], k, v, b => by simp [live]
  | none :: r, k, v, b => by
    rw [live, mem_live]
    constructor
    · rintro ⟨i, h1, h2⟩
      exact ⟨i + 1, by simpa using h1, by omega⟩
    · rintro ⟨i, h1, h2⟩
      cases i with
      | zero => simp at h1
      | succ i => exact ⟨i, by simpa using h1, by omega⟩
  | some c :: r, k, v, b => by
    rw [live, List.mem_cons, mem_live]
    constructor
    · rintro (h | ⟨i, h1, h2⟩)
      · simp only [Prod.mk.injEq] at h
        exact ⟨0, by simp [h.2], by omega⟩
      · exact ⟨i + 1, by simpa using h1, by omega⟩
    · rintro ⟨i, h1, h2⟩
      cases i with
      | zero =>
        simp only [List.getElem?_cons_zero, Option.some.injEq] at h1
        left; rw [h1, h2]; rfl
      | succ i => right; exact ⟨i, by simpa using h1, by omega⟩

theorem live_len_le : ∀ (S : Slots) (k : Nat), (live k S).length ≤ S.length
  | [], _ => by simp [live]
  | none :: r, k => by have := live_len_le r (k + 1); simp [live]; omega
  | some b :: r, k => by have := live_len_le r (k + 1); simp [live]; omega

/-- The first slot that is free. -/
def freeN : Slots → Option Nat
  | [] => none
  | none :: _ => some 0
  | some _ :: r => (freeN r).map (· + 1)

theorem freeN_none : ∀ {S : Slots} (k : Nat), freeN S = none → (live k S).length = S.length
  | [], _, _ => rfl
  | none :: r, _, h => by simp [freeN] at h
  | some b :: r, k, h => by
    have := freeN_none (S := r) (k + 1) (by simpa [freeN] using h)
    simp [live, this]

theorem freeN_some : ∀ {S : Slots} {i : Nat} (k : Nat), freeN S = some i → i < S.length ∧ S[i]? = some none ∧ (live k S).length < S.length ∧ i ≤ (live k S).length ∧ (∀ j, j < i → ∃ b, (live k S)[j]? = some (((k + j : Nat) : Int), b) ∧ S[j]? = some (some b)) ∧
    (∀ v b, (live k S)[i]? = some (v, b) → v ≠ ((k + i : Nat) : Int)) ∧ ∀ b, live k (S.set i (some b)) = (live k S).take i ++ (((k + i : Nat) : Int), b) :: (live k S).drop i
  | [], i, _, h => by simp [freeN] at h
  | none :: r, i, k, h => by
    simp [freeN] at h
    subst h
    have hl := live_len_le r (k + 1)
    refine ⟨by simp, rfl, by simp [live]; omega, by omega, by omega, fun v b hv => ?_, fun b => by simp [live]⟩
    have := List.mem_of_getElem? hv
    rw [live, mem_live] at this
    obtain ⟨j, _, hj⟩ := this
    omega
  | some c :: r, i, k, h => by
    simp only [freeN, Option.map_eq_some_iff] at h
    obtain ⟨i', h', rfl⟩ := h
    obtain ⟨h1, h2, h3, h4, h5, h6, h7⟩ := freeN_some (k + 1) h'
    refine ⟨by simp; omega, by simpa using h2, by simp [live]; omega, by simp [live]; omega, fun j hj => ?_, fun v b hv => ?_, fun b => ?_⟩
    · cases j with
      | zero => exact ⟨c, by simp [live], by simp⟩
      | succ j =>
        obtain ⟨b, g1, g2⟩ := h5 j (by omega)
        refine ⟨b, ?_, by simpa using g2⟩
        rw [live, List.getElem?_cons_succ, g1, show k + 1 + j = k + (j + 1) by omega]
    · rw [live, List.getElem?_cons_succ] at hv
      have := h6 v b hv
      rwa [show k + 1 + i' = k + (i' + 1) by omega] at this
    · rw [List.set_cons_succ, live, h7 b, live, List.take_succ_cons, List.drop_succ_cons, show k + 1 + i' = k + (i' + 1) by omega]
      rfl

theorem live_remove : ∀ (S : Slots) (k i : Nat), live k (S.set i none) = (live k S).filter fun x => x.1 != ((k + i : Nat) : Int)
  | [], _, _ => by simp [live]
  | c :: r, k, 0 => by
    have hno : ∀ x ∈ live (k + 1) r, (x.1 != ((k + 0 : Nat) : Int)) = true := by
      rintro ⟨v, b⟩ hx
      obtain ⟨j, _, hj⟩ := mem_live.1 hx
      simp; omega
    have hf := List.filter_eq_self.2 hno
    cases c with
    | none => rw [List.set_cons_zero, live, hf]
    | some b =>
      rw [List.set_cons_zero, live, live, List.filter_cons_of_neg (by simp), hf]
  | none :: r, k, i + 1 => by
    rw [List.set_cons_succ, live, live, live_remove r (k + 1) i, show k + 1 + i = k + (i + 1) by omega]
  | some b :: r, k, i + 1 => by
    rw [List.set_cons_succ, live, live, live_remove r (k + 1) i, show k + 1 + i = k + (i + 1) by omega, List.filter_cons_of_pos (by simp; omega)]

theorem live_remove_len : ∀ {S : Slots} {i : Nat} {b : Bnd} (k : Nat), S[i]? = some (some b) → (live k (S.set i none)).length + 1 = (live k S).length
  | [], _, _, _, h => by simp at h
  | c :: r, 0, b, k, h => by
    simp at h; subst h; simp [live]
  | none :: r, i + 1, b, k, h => by
    rw [List.set_cons_succ, live, live]; exact live_remove_len (k + 1) (by simpa using h)
  | some c :: r, i + 1, b, k, h => by
    rw [List.set_cons_succ, live, live, List.length_cons, List.length_cons, live_remove_len (k + 1) (by simpa using h)]

/-- What the tables say of the slots. -/
structure GoodB (S : Slots) (Mi Mo : ByteArray → Option Int) : Prop where
  i : ∀ k v, Mi k = some v ↔ ∃ (j : Nat) (b : Bnd), S[j]? = some (some b) ∧ keyS b.i = k ∧ v = (j : Int)
  o : ∀ k v, Mo k = some v ↔ ∃ (j : Nat) (b : Bnd), S[j]? = some (some b) ∧ keyS b.o = k ∧ v = (j : Int)
  ok : ∀ (j : Nat) (b : Bnd), S[j]? = some (some b) → b.ok

def upd (M : ByteArray → Option Int) (k : ByteArray) (v : Option Int) : ByteArray → Option Int := fun x => if x = k then v else M x

theorem get_set {S : Slots} {i j : Nat} {v : Option Bnd} (hi : i < S.length) : (S.set i v)[j]? = if i = j then some v else S[j]? := by
  rw [List.getElem?_set]
  split
  · rename_i h; subst h; simp [hi]
  · rfl

theorem GoodB.add {S : Slots} {Mi Mo : ByteArray → Option Int} (h : GoodB S Mi Mo) {i : Nat} {b : Bnd} (hi : S[i]? = some none) (hb : b.ok) (h1 : Mi (keyS b.i) = none) (h2 : Mo (keyS b.o) = none) :
    GoodB (S.set i (some b)) (upd Mi (keyS b.i) (some i)) (upd Mo (keyS b.o) (some i)) := by
  have hl : i < S.length := (List.getElem?_eq_some_iff.1 hi).1
  refine ⟨fun k v => ?_, fun k v => ?_, fun j c hc => ?_⟩
  · unfold upd
    by_cases hk : k = keyS b.i
    · rw [if_pos hk]
      constructor
      · intro e; exact ⟨i, b, by rw [get_set hl, if_pos rfl], hk.symm, by simpa using e.symm⟩
      · rintro ⟨j, c, hc, hk2, rfl⟩
        rw [get_set hl] at hc
        split at hc
        · rename_i e; subst e; rfl
        · have := (h.i k j).2 ⟨j, c, hc, hk2, rfl⟩
          rw [hk, h1] at this; cases this
    · rw [if_neg hk, h.i]
      constructor
      · rintro ⟨j, c, hc, hk2, rfl⟩
        refine ⟨j, c, ?_, hk2, rfl⟩
        rw [get_set hl, if_neg]
        · exact hc
        · rintro rfl; rw [hi] at hc; cases hc
      · rintro ⟨j, c, hc, hk2, rfl⟩
        rw [get_set hl] at hc
        split at hc
        · rename_i e; subst e; simp only [Option.some.injEq] at hc; subst hc; exact absurd hk2.symm hk
        · exact ⟨j, c, hc, hk2, rfl⟩
  · unfold upd
    by_cases hk : k = keyS b.o
    · rw [if_pos hk]
      constructor
      · intro e; exact ⟨i, b, by rw [get_set hl, if_pos rfl], hk.symm, by simpa using e.symm⟩
      · rintro ⟨j, c, hc, hk2, rfl⟩
        rw [get_set hl] at hc
        split at hc
        · rename_i e; subst e; rfl
        · have := (h.o k j).2 ⟨j, c, hc, hk2, rfl⟩
          rw [hk, h2] at this; cases this
    · rw [if_neg hk, h.o]
      constructor
      · rintro ⟨j, c, hc, hk2, rfl⟩
        refine ⟨j, c, ?_, hk2, rfl⟩
        rw [get_set hl, if_neg]
        · exact hc
        · rintro rfl; rw [hi] at hc; cases hc
      · rintro ⟨j, c, hc, hk2, rfl⟩
        rw [get_set hl] at hc
        split at hc
        · rename_i e; subst e; simp only [Option.some.injEq] at hc; subst hc; exact absurd hk2.symm hk
        · exact ⟨j, c, hc, hk2, rfl⟩
  · rw [get_set hl] at hc
    split at hc
    · simp only [Option.some.injEq] at hc; subst hc; exact hb
    · exact h.ok j c hc

theorem GoodB.one {S : Slots} {Mi Mo : ByteArray → Option Int} (h : GoodB S Mi Mo) {i j : Nat} {b c : Bnd} (hi : S[i]? = some (some b)) (hj : S[j]? = some (some c)) (e : keyS b.i = keyS c.i ∨ keyS b.o = keyS c.o) : i = j := by
  rcases e with e | e
  · have h1 := (h.i _ i).2 ⟨i, b, hi, rfl, rfl⟩
    have h2 := (h.i _ j).2 ⟨j, c, hj, rfl, rfl⟩
    rw [e, h2] at h1
    simp at h1; omega
  · have h1 := (h.o _ i).2 ⟨i, b, hi, rfl, rfl⟩
    have h2 := (h.o _ j).2 ⟨j, c, hj, rfl, rfl⟩
    rw [e, h2] at h1
    simp at h1; omega

theorem GoodB.remove {S : Slots} {Mi Mo : ByteArray → Option Int} (h : GoodB S Mi Mo) {i : Nat} {b : Bnd} (hi : S[i]? = some (some b)) :
    GoodB (S.set i none) (upd Mi (keyS b.i) none) (upd Mo (keyS b.o) none) := by
  have hl : i < S.length := (List.getElem?_eq_some_iff.1 hi).1
  refine ⟨fun k v => ?_, fun k v => ?_, fun j c hc => ?_⟩
  · unfold upd
    by_cases hk : k = keyS b.i
    · rw [if_pos hk]
      constructor
      · intro e; cases e
      · rintro ⟨j, c, hc, hk2, rfl⟩
        rw [get_set hl] at hc
        split at hc
        · cases hc
        · rename_i e; exact absurd (h.one hi hc (.inl (by rw [hk2, hk]))) e
    · rw [if_neg hk, h.i]
      constructor
      · rintro ⟨j, c, hc, hk2, rfl⟩
        refine ⟨j, c, ?_, hk2, rfl⟩
        rw [get_set hl, if_neg]
        · exact hc
        · rintro rfl; rw [hi] at hc; simp only [Option.some.injEq] at hc; subst hc; exact hk hk2.symm
      · rintro ⟨j, c, hc, hk2, rfl⟩
        rw [get_set hl] at hc
        split at hc
        · cases hc
        · exact ⟨j, c, hc, hk2, rfl⟩
  · unfold upd
    by_cases hk : k = keyS b.o
    · rw [if_pos hk]
      constructor
      · intro e; cases e
      · rintro ⟨j, c, hc, hk2, rfl⟩
        rw [get_set hl] at hc
        split at hc
        · cases hc
        · rename_i e; exact absurd (h.one hi hc (.inr (by rw [hk2, hk]))) e
    · rw [if_neg hk, h.o]
      constructor
      · rintro ⟨j, c, hc, hk2, rfl⟩
        refine ⟨j, c, ?_, hk2, rfl⟩
        rw [get_set hl, if_neg]
        · exact hc
        · rintro rfl; rw [hi] at hc; simp only [Option.some.injEq] at hc; subst hc; exact hk hk2.symm
      · rintro ⟨j, c, hc, hk2, rfl⟩
        rw [get_set hl] at hc
        split at hc
        · cases hc
        · exact ⟨j, c, hc, hk2, rfl⟩
  · rw [get_set hl] at hc
    split at hc
    · cases hc
    · exact h.ok j c hc

/-! ### The document's list -/
def findL (p : Int × Bnd → Bool) (L : List (Int × Bnd)) : Option (Int × Bnd) := L.find? p

theorem find_i {S : Slots} {Mi Mo : ByteArray → Option Int} (h : GoodB S Mi Mo) {q : List Int} (hq : ∀ n ∈ q, In64 n) (h4 : q.length = 4) : Mi (keyS q) = ((live 0 S).find? fun x => decide (x.2.i = q)).map (·.1) := by
  cases hf : (live 0 S).find? fun x => decide (x.2.i = q) with
  | none =>
    cases hm : Mi (keyS q) with
    | none => rfl
    | some v =>
      obtain ⟨j, b, hj, hk, rfl⟩ := (h.i _ v).1 hm
      have := List.find?_eq_none.1 hf ((j : Int), b) (mem_live.2 ⟨j, hj, by omega⟩)
      simp only [decide_eq_true_eq] at this
      exact absurd (keyS_inj (by rw [h4]; rfl) (h.ok j b hj).1 hq hk) this
  | some x =>
    obtain ⟨v, b⟩ := x
    have hm := List.mem_of_find?_eq_some hf
    have hp := List.find?_some hf
    simp only [decide_eq_true_eq] at hp
    obtain ⟨j, hj, hv⟩ := mem_live.1 hm
    exact (h.i _ v).2 ⟨j, b, hj, by rw [hp], by omega⟩

theorem find_o {S : Slots} {Mi Mo : ByteArray → Option Int} (h : GoodB S Mi Mo) {q : List Int} (hq : ∀ n ∈ q, In64 n) (h4 : q.length = 3) : Mo (keyS q) = ((live 0 S).find? fun x => decide (x.2.o = q)).map (·.1) := by
  cases hf : (live 0 S).find? fun x => decide (x.2.o = q) with
  | none =>
    cases hm : Mo (keyS q) with
    | none => rfl
    | some v =>
      obtain ⟨j, b, hj, hk, rfl⟩ := (h.o _ v).1 hm
      have := List.find?_eq_none.1 hf ((j : Int), b) (mem_live.2 ⟨j, hj, by omega⟩)
      simp only [decide_eq_true_eq] at this
      exact absurd (keyS_inj (by rw [h4]; rfl) (h.ok j b hj).2 hq hk) this
  | some x =>
    obtain ⟨v, b⟩ := x
    have hm := List.mem_of_find?_eq_some hf
    have hp := List.find?_some hf
    simp only [decide_eq_true_eq] at hp
    obtain ⟨j, hj, hv⟩ := mem_live.1 hm
    exact (h.o _ v).2 ⟨j, b, hj, by rw [hp], by omega⟩

/-- What has a number. -/
def getS (S : Slots) (id : Int) : Option Bnd := if 0 ≤ id then (S[id.toNat]?).join else none

theorem getS_some {S : Slots} {id : Int} {b : Bnd} : getS S id = some b ↔ 0 ≤ id ∧ S[id.toNat]? = some (some b) := by
  unfold getS
  split
  · rename_i h
    rw [Option.join_eq_some_iff]
    simp [h]
  · rename_i h; simp [h]

theorem find_id {S : Slots} (id : Int) : ((live 0 S).find? fun x => x.1 == id).map (·.2) = getS S id := by
  cases hf : (live 0 S).find? fun x => x.1 == id with
  | none =>
    cases hg : getS S id with
    | none => rfl
    | some b =>
      obtain ⟨h0, hj⟩ := getS_some.1 hg
      have := List.find?_eq_none.1 hf (id, b) (mem_live.2 ⟨id.toNat, hj, by omega⟩)
      simp at this
  | some x =>
    obtain ⟨v, b⟩ := x
    have hm := List.mem_of_find?_eq_some hf
    have hp := List.find?_some hf
    simp only [beq_iff_eq] at hp
    obtain ⟨j, hj, hv⟩ := mem_live.1 hm
    symm
    refine getS_some.2 ⟨by omega, ?_⟩
    rw [show id.toNat = j by omega]
    exact hj
end Gp.Bind
