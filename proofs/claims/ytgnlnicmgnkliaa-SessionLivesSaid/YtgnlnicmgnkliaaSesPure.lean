import Derived.Test.YtgnlnicmgnkliaaBindPure
/- Sessions in slots, and the document's list of them: no program in sight. -/
namespace Gp.Ses
open Gp.V4
open Gp.Bind (keyB keyS keyS_inj In64 upd)

structure Ses where
  bd : Int
  st : Int
  un : Int
  ra : Int
  rp : Int
deriving DecidableEq

def Ses.k (b : Ses) : List Int := [b.bd, b.ra, b.rp]
def Ses.ok (b : Ses) : Prop := ∀ n ∈ b.k, In64 n

abbrev Slots := List (Option Ses)

/-- The bindings with their numbers. -/
def live : Nat → Slots → List (Int × Ses)
  | _, [] => []
  | i, none :: r => live (i + 1) r
  | i, some b :: r => ((i : Int), b) :: live (i + 1) r

theorem mem_live : ∀ {S : Slots} {k : Nat} {v : Int} {b : Ses}, (v, b) ∈ live k S ↔ ∃ i : Nat, S[i]? = some (some b) ∧ v = ((k + i : Nat) : Int)
  | [], k, v, b => by simp [live]
  | none :: r, k, v, b => by
    rw [live, mem_live]
    constructor
    · rintro ⟨i, h1, h2⟩
      exact ⟨i + 1, by simpa using h1, by omega⟩
    · rintro ⟨i, h1, h2⟩
      cases i with
      | zero => simp at h1
      | succ i => exact ⟨i, by simpa using h1, by omega⟩
  | some c :: r, k, v, b => by
    rw [live, List.mem_cons, mem_live]
    constructor
    · rintro (h | ⟨i, h1, h2⟩)
      · simp only [Prod.mk.injEq] at h
        exact ⟨0, by simp [h.2], by omega⟩
      · exact ⟨i + 1, by simpa using h1, by omega⟩
    · rintro ⟨i, h1, h2⟩
      cases i with
      | zero =>
        simp only [List.getElem?_cons_zero, Option.some.injEq] at h1
        left; rw [h1, h2]; rfl
      | succ i => right; exact ⟨i, by simpa using h1, by omega⟩

theorem live_len_le : ∀ (S : Slots) (k : Nat), (live k S).length ≤ S.length
  | [], _ => by simp [live]
  | none :: r, k => by have := live_len_le r (k + 1); simp [live]; omega
  | some b :: r, k => by have := live_len_le r (k + 1); simp [live]; omega

/-- The first slot that is free. -/
def freeN : Slots → Option Nat
  | [] => none
  | none :: _ => some 0
  | some _ :: r => (freeN r).map (· + 1)

theorem freeN_none : ∀ {S : Slots} (k : Nat), freeN S = none → (live k S).length = S.length
  | [], _, _ => rfl
  | none :: r, _, h => by simp [freeN] at h
  | some b :: r, k, h => by
    have := freeN_none (S := r) (k + 1) (by simpa [freeN] using h)
    simp [live, this]

theorem freeN_some : ∀ {S : Slots} {i : Nat} (k : Nat), freeN S = some i → i < S.length ∧ S[i]? = some none ∧ (live k S).length < S.length ∧ i ≤ (live k S).length ∧ (∀ j, j < i → ∃ b, (live k S)[j]? = some (((k + j : Nat) : Int), b) ∧ S[j]? = some (some b)) ∧
    (∀ v b, (live k S)[i]? = some (v, b) → v ≠ ((k + i : Nat) : Int)) ∧ ∀ b, live k (S.set i (some b)) = (live k S).take i ++ (((k + i : Nat) : Int), b) :: (live k S).drop i
  | [], i, _, h => by simp [freeN] at h
  | none :: r, i, k, h => by
    simp [freeN] at h
    subst h
    have hl := live_len_le r (k + 1)
    refine ⟨by simp, rfl, by simp [live]; omega, by omega, by omega, fun v b hv => ?_, fun b => by simp [live]⟩
    have := List.mem_of_getElem? hv
    rw [live, mem_live] at this
    obtain ⟨j, _, hj⟩ := this
    omega
  | some c :: r, i, k, h => by
    simp only [freeN, Option.map_eq_some_iff] at h
    obtain ⟨i', h', rfl⟩ := h
    obtain ⟨h1, h2, h3, h4, h5, h6, h7⟩ := freeN_some (k + 1) h'
    refine ⟨by simp; omega, by simpa using h2, by simp [live]; omega, by simp [live]; omega, fun j hj => ?_, fun v b hv => ?_, fun b => ?_⟩
    · cases j with
      | zero => exact ⟨c, by simp [live], by simp⟩
      | succ j =>
        obtain ⟨b, g1, g2⟩ := h5 j (by omega)
        refine ⟨b, ?_, by simpa using g2⟩
        rw [live, List.getElem?_cons_succ, g1, show k + 1 + j = k + (j + 1) by omega]
    · rw [live, List.getElem?_cons_succ] at hv
      have := h6 v b hv
      rwa [show k + 1 + i' = k + (i' + 1) by omega] at this
    · rw [List.set_cons_succ, live, h7 b, live, List.take_succ_cons, List.drop_succ_cons, show k + 1 + i' = k + (i' + 1) by omega]
      rfl

theorem live_remove : ∀ (S : Slots) (k i : Nat), live k (S.set i none) = (live k S).filter fun x => x.1 != ((k + i : Nat) : Int)
  | [], _, _ => by simp [live]
  | c :: r, k, 0 => by
    have hno : ∀ x ∈ live (k + 1) r, (x.1 != ((k + 0 : Nat) : Int)) = true := by
      rintro ⟨v, b⟩ hx
      obtain ⟨j, _, hj⟩ := mem_live.1 hx
      simp; omega
    have hf := List.filter_eq_self.2 hno
    cases c with
    | none => rw [List.set_cons_zero, live, hf]
    | some b =>
      rw [List.set_cons_zero, live, live, List.filter_cons_of_neg (by simp), hf]
  | none :: r, k, i + 1 => by
    rw [List.set_cons_succ, live, live, live_remove r (k + 1) i, show k + 1 + i = k + (i + 1) by omega]
  | some b :: r, k, i + 1 => by
    rw [List.set_cons_succ, live, live, live_remove r (k + 1) i, show k + 1 + i = k + (i + 1) by omega, List.filter_cons_of_pos (by simp; omega)]

theorem live_remove_len : ∀ {S : Slots} {i : Nat} {b : Ses} (k : Nat), S[i]? = some (some b) → (live k (S.set i none)).length + 1 = (live k S).length
  | [], _, _, _, h => by simp at h
  | c :: r, 0, b, k, h => by
    simp at h; subst h; simp [live]
  | none :: r, i + 1, b, k, h => by
    rw [List.set_cons_succ, live, live]; exact live_remove_len (k + 1) (by simpa using h)
  | some c :: r, i + 1, b, k, h => by
    rw [List.set_cons_succ, live, live, List.length_cons, List.length_cons, live_remove_len (k + 1) (by simpa using h)]

/-- What the table says of the slots. -/
structure GoodS (S : Slots) (M : ByteArray → Option Int) : Prop where
  k : ∀ k v, M k = some v ↔ ∃ (j : Nat) (b : Ses), S[j]? = some (some b) ∧ keyS b.k = k ∧ v = (j : Int)
  ok : ∀ (j : Nat) (b : Ses), S[j]? = some (some b) → b.ok

theorem get_set {S : Slots} {i j : Nat} {v : Option Ses} (hi : i < S.length) : (S.set i v)[j]? = if i = j then some v else S[j]? := by
  rw [List.getElem?_set]
  split
  · rename_i h; subst h; simp []
  · rfl

theorem GoodS.add {S : Slots} {M : ByteArray → Option Int} (h : GoodS S M) {i : Nat} {b : Ses} (hi : S[i]? = some none) (hb : b.ok) (h1 : M (keyS b.k) = none) : GoodS (S.set i (some b)) (upd M (keyS b.k) (some i)) := by
  have hl : i < S.length := (List.getElem?_eq_some_iff.1 hi).1
  refine ⟨fun k v => ?_, fun j c hc => ?_⟩
  · unfold upd
    by_cases hk : k = keyS b.k
    · rw [if_pos hk]
      constructor
      · intro e; exact ⟨i, b, by rw [get_set hl, if_pos rfl], hk.symm, by simpa using e.symm⟩
      · rintro ⟨j, c, hc, hk2, rfl⟩
        rw [get_set hl] at hc
        split at hc
        · rename_i e; subst e; rfl
        · have := (h.k k j).2 ⟨j, c, hc, hk2, rfl⟩
          rw [hk, h1] at this; cases this
    · rw [if_neg hk, h.k]
      constructor
      · rintro ⟨j, c, hc, hk2, rfl⟩
        refine ⟨j, c, ?_, hk2, rfl⟩
        rw [get_set hl, if_neg]
        · exact hc
        · rintro rfl; rw [hi] at hc; cases hc
      · rintro ⟨j, c, hc, hk2, rfl⟩
        rw [get_set hl] at hc
        split at hc
        · rename_i e; subst e; simp only [Option.some.injEq] at hc; subst hc; exact absurd hk2.symm hk
        · exact ⟨j, c, hc, hk2, rfl⟩
  · rw [get_set hl] at hc
    split at hc
    · simp only [Option.some.injEq] at hc; subst hc; exact hb
    · exact h.ok j c hc

theorem GoodS.one {S : Slots} {M : ByteArray → Option Int} (h : GoodS S M) {i j : Nat} {b c : Ses} (hi : S[i]? = some (some b)) (hj : S[j]? = some (some c)) (e : keyS b.k = keyS c.k) : i = j := by
  have h1 := (h.k _ i).2 ⟨i, b, hi, rfl, rfl⟩
  have h2 := (h.k _ j).2 ⟨j, c, hj, rfl, rfl⟩
  rw [e, h2] at h1
  simp at h1; omega

theorem GoodS.remove {S : Slots} {M : ByteArray → Option Int} (h : GoodS S M) {i : Nat} {b : Ses} (hi : S[i]? = some (some b)) : GoodS (S.set i none) (upd M (keyS b.k) none) := by
  have hl : i < S.length := (List.getElem?_eq_some_iff.1 hi).1
  refine ⟨fun k v => ?_, fun j c hc => ?_⟩
  · unfold upd
    by_cases hk : k = keyS b.k
    · rw [if_pos hk]
      constructor
      · intro e; cases e
      · rintro ⟨j, c, hc, hk2, rfl⟩
        rw [get_set hl] at hc
        split at hc
        · cases hc
        · rename_i e; exact absurd (h.one hi hc (by rw [hk2, hk])) e
    · rw [if_neg hk, h.k]
      constructor
      · rintro ⟨j, c, hc, hk2, rfl⟩
        refine ⟨j, c, ?_, hk2, rfl⟩
        rw [get_set hl, if_neg]
        · exact hc
        · rintro rfl; rw [hi] at hc; simp only [Option.some.injEq] at hc; subst hc; exact hk hk2.symm
      · rintro ⟨j, c, hc, hk2, rfl⟩
        rw [get_set hl] at hc
        split at hc
        · cases hc
        · exact ⟨j, c, hc, hk2, rfl⟩
  · rw [get_set hl] at hc
    split at hc
    · cases hc
    · exact h.ok j c hc

/-- A session is changed; its ends stay. -/
theorem GoodS.put {S : Slots} {M : ByteArray → Option Int} (h : GoodS S M) {i : Nat} {b b' : Ses} (hi : S[i]? = some (some b)) (he : b'.k = b.k) : GoodS (S.set i (some b')) M := by
  have hl : i < S.length := (List.getElem?_eq_some_iff.1 hi).1
  refine ⟨fun k v => ?_, fun j c hc => ?_⟩
  · rw [h.k]
    constructor
    · rintro ⟨j, c, hc, hk, rfl⟩
      by_cases e : i = j
      · subst e
        rw [hi] at hc
        cases hc
        exact ⟨i, b', by rw [get_set hl, if_pos rfl], by rw [he, hk], rfl⟩
      · exact ⟨j, c, by rw [get_set hl, if_neg e]; exact hc, hk, rfl⟩
    · rintro ⟨j, c, hc, hk, rfl⟩
      rw [get_set hl] at hc
      split at hc
      · rename_i e; subst e; cases hc
        exact ⟨i, b, hi, by rw [← he, hk], rfl⟩
      · exact ⟨j, c, hc, hk, rfl⟩
  · rw [get_set hl] at hc
    split at hc
    · cases hc
      have := h.ok i b hi
      unfold Ses.ok at this ⊢
      rw [he]; exact this
    · exact h.ok j c hc

theorem find_k {S : Slots} {M : ByteArray → Option Int} (h : GoodS S M) {q : List Int} (hq : ∀ n ∈ q, In64 n) (h4 : q.length = 3) : M (keyS q) = ((live 0 S).find? fun x => decide (x.2.k = q)).map (·.1) := by
  cases hf : (live 0 S).find? fun x => decide (x.2.k = q) with
  | none =>
    cases hm : M (keyS q) with
    | none => rfl
    | some v =>
      obtain ⟨j, b, hj, hk, rfl⟩ := (h.k _ v).1 hm
      have := List.find?_eq_none.1 hf ((j : Int), b) (mem_live.2 ⟨j, hj, by omega⟩)
      simp only [decide_eq_true_eq] at this
      exact absurd (keyS_inj (by rw [h4]; rfl) (h.ok j b hj) hq hk) this
  | some x =>
    obtain ⟨v, b⟩ := x
    have hm := List.mem_of_find?_eq_some hf
    have hp := List.find?_some hf
    simp only [decide_eq_true_eq] at hp
    obtain ⟨j, hj, hv⟩ := mem_live.1 hm
    exact (h.k _ v).2 ⟨j, b, hj, by rw [hp], by omega⟩

/-- What has a number. -/
def getS (S : Slots) (id : Int) : Option Ses := if 0 ≤ id then (S[id.toNat]?).join else none

theorem getS_some {S : Slots} {id : Int} {b : Ses} : getS S id = some b ↔ 0 ≤ id ∧ S[id.toNat]? = some (some b) := by
  unfold getS
  split
  · rename_i h
    rw [Option.join_eq_some_iff]
    simp [h]
  · rename_i h; simp [h]

theorem find_id {S : Slots} (id : Int) : ((live 0 S).find? fun x => x.1 == id).map (·.2) = getS S id := by
  cases hf : (live 0 S).find? fun x => x.1 == id with
  | none =>
    cases hg : getS S id with
    | none => rfl
    | some b =>
      obtain ⟨h0, hj⟩ := getS_some.1 hg
      have := List.find?_eq_none.1 hf (id, b) (mem_live.2 ⟨id.toNat, hj, by omega⟩)
      simp at this
  | some x =>
    obtain ⟨v, b⟩ := x
    have hm := List.mem_of_find?_eq_some hf
    have hp := List.find?_some hf
    simp only [beq_iff_eq] at hp
    obtain ⟨j, hj, hv⟩ := mem_live.1 hm
    symm
    refine getS_some.2 ⟨by omega, ?_⟩
    rw [show id.toNat = j by omega]
    exact hj


theorem live_put : ∀ {S : Slots} {i : Nat} {b : Ses} (b' : Ses) (k : Nat), S[i]? = some (some b) → live k (S.set i (some b')) = (live k S).map fun x => if x.1 = ((k + i : Nat) : Int) then (x.1, b') else x
  | [], _, _, _, _, h => by simp at h
  | none :: r, 0, b, b', k, h => by simp at h
  | some c :: r, 0, b, b', k, h => by
    have hno : ∀ x ∈ live (k + 1) r, (if x.1 = ((k + 0 : Nat) : Int) then (x.1, b') else x) = x := by
      rintro ⟨v, b⟩ hx
      obtain ⟨j, _, hj⟩ := mem_live.1 hx
      rw [if_neg (by simp only; omega)]
    rw [List.set_cons_zero, live, live, List.map_cons, if_pos (by simp), List.map_congr_left hno, List.map_id']
  | none :: r, i + 1, b, b', k, h => by
    rw [List.set_cons_succ, live, live, live_put b' (k + 1) (by simpa using h), show k + 1 + i = k + (i + 1) by omega]
  | some c :: r, i + 1, b, b', k, h => by
    rw [List.set_cons_succ, live, live, List.map_cons, live_put b' (k + 1) (by simpa using h), show k + 1 + i = k + (i + 1) by omega, if_neg (by simp only; omega)]

theorem live_sorted : ∀ (S : Slots) (k : Nat), (live k S).Pairwise (fun x y => x.1 < y.1) ∧ ∀ x ∈ live k S, (k : Int) ≤ x.1
  | [], _ => by simp [live]
  | none :: r, k => by
    have := live_sorted r (k + 1)
    refine ⟨this.1, fun x hx => ?_⟩
    have := this.2 x hx; omega
  | some b :: r, k => by
    have := live_sorted r (k + 1)
    rw [live]
    refine ⟨List.pairwise_cons.2 ⟨fun x hx => by have := this.2 x hx; simp only; omega, this.1⟩, fun x hx => ?_⟩
    rcases List.mem_cons.1 hx with rfl | hx
    · simp
    · have := this.2 x hx; omega

/-- The numbers of a binding's sessions. -/
def ids (S : Slots) (k : Int) : List Int := ((live 0 S).filter fun x => x.2.bd == k).map (·.1)

theorem ids_sorted (S : Slots) (k : Int) : (ids S k).Pairwise (· < ·) := by
  unfold ids
  rw [List.pairwise_map]
  exact ((live_sorted S 0).1.filter _)

theorem ids_mem {S : Slots} {k v : Int} : v ∈ ids S k ↔ ∃ (i : Nat) (b : Ses), S[i]? = some (some b) ∧ v = (i : Int) ∧ b.bd = k := by
  unfold ids
  rw [List.mem_map]
  constructor
  · rintro ⟨⟨v', b⟩, h, rfl⟩
    obtain ⟨h1, h2⟩ := List.mem_filter.1 h
    obtain ⟨i, h3, h4⟩ := mem_live.1 h1
    exact ⟨i, b, h3, by simp only; omega, by simpa using h2⟩
  · rintro ⟨i, b, h1, rfl, h2⟩
    exact ⟨((i : Int), b), List.mem_filter.2 ⟨mem_live.2 ⟨i, h1, by omega⟩, by simpa using h2⟩, rfl⟩

theorem sorted_eq {l m : List Int} (hl : l.Pairwise (· < ·)) (hm : m.Pairwise (· < ·)) (h : ∀ v, v ∈ l ↔ v ∈ m) : l = m := by
  induction l generalizing m with
  | nil =>
    cases m with
    | nil => rfl
    | cons a m => have := (h a).2 (by simp); simp at this
  | cons a l ih =>
    cases m with
    | nil => have := (h a).1 (by simp); simp at this
    | cons b m =>
      rw [List.pairwise_cons] at hl hm
      have h1 := (h a).1 (by simp)
      have h2 := (h b).2 (by simp)
      have hab : a = b := by
        rcases List.mem_cons.1 h1 with e | e
        · exact e
        · rcases List.mem_cons.1 h2 with e' | e'
          · exact e'.symm
          · have := hm.1 a e; have := hl.1 b e'; omega
      subst hab
      rw [ih hl.2 hm.2 fun v => ?_]
      have := h v
      constructor
      · intro hv
        rcases List.mem_cons.1 (this.1 (by simp [hv])) with e | e
        · have := hl.1 v hv; omega
        · exact e
      · intro hv
        rcases List.mem_cons.1 (this.2 (by simp [hv])) with e | e
        · have := hm.1 v hv; omega
        · exact e

/-- A session comes: its number stands among its binding's. -/
theorem ids_add {S : Slots} {i : Nat} {b : Ses} (hi : S[i]? = some none) {p : Nat} (h1 : ∀ (j : Nat) v, j < p → (ids S b.bd)[j]? = some v → v < (i : Int)) (h2 : ∀ (j : Nat) v, p ≤ j → (ids S b.bd)[j]? = some v → ¬ v < (i : Int)) (hp : p ≤ (ids S b.bd).length) :
    ids (S.set i (some b)) b.bd = (ids S b.bd).take p ++ (i : Int) :: (ids S b.bd).drop p := by
  have hl : i < S.length := (List.getElem?_eq_some_iff.1 hi).1
  have hni : (i : Int) ∉ ids S b.bd := fun h => by
    obtain ⟨j, c, hc, hj, _⟩ := ids_mem.1 h
    have : i = j := by omega
    subst this
    rw [hi] at hc; cases hc
  have hs := ids_sorted S b.bd
  refine sorted_eq (ids_sorted _ _) ?_ fun v => ?_
  · rw [List.pairwise_append, List.pairwise_cons]
    refine ⟨hs.sublist (List.take_sublist ..), ⟨fun q hq => ?_, hs.sublist (List.drop_sublist ..)⟩, fun q hq r hr => ?_⟩
    · obtain ⟨k, hk⟩ := List.getElem?_of_mem hq
      rw [List.getElem?_drop] at hk
      have := h2 _ q (by omega) hk
      have : q ≠ (i : Int) := fun e => hni (e ▸ List.mem_of_mem_drop hq)
      omega
    · obtain ⟨k, hk, he⟩ := List.mem_take_iff_getElem.1 hq
      have hql := h1 k q (by omega) (by rw [List.getElem?_eq_getElem (by omega), he])
      rcases List.mem_cons.1 hr with rfl | hr
      · exact hql
      · obtain ⟨k', hk'⟩ := List.getElem?_of_mem hr
        rw [List.getElem?_drop] at hk'
        have := h2 _ r (by omega) hk'
        omega
  · rw [ids_mem, List.mem_append, List.mem_cons, ← or_assoc, or_right_comm, or_comm (b := v = (i : Int)), ← List.mem_append, List.take_append_drop, ids_mem]
    constructor
    · rintro ⟨j, c, hc, rfl, hb⟩
      rw [get_set hl] at hc
      split at hc
      · rename_i e; exact .inl (by rw [e])
      · exact .inr ⟨j, c, hc, rfl, hb⟩
    · rintro (rfl | ⟨j, c, hc, rfl, hb⟩)
      · exact ⟨i, b, by rw [get_set hl, if_pos rfl], rfl, rfl⟩
      · refine ⟨j, c, ?_, rfl, hb⟩
        rw [get_set hl, if_neg]
        · exact hc
        · rintro rfl; rw [hi] at hc; cases hc

theorem ids_add_other {S : Slots} {i : Nat} {b : Ses} (hi : S[i]? = some none) {k : Int} (hk : k ≠ b.bd) : ids (S.set i (some b)) k = ids S k := by
  have hl : i < S.length := (List.getElem?_eq_some_iff.1 hi).1
  refine sorted_eq (ids_sorted _ _) (ids_sorted _ _) fun v => ?_
  rw [ids_mem, ids_mem]
  constructor
  · rintro ⟨j, c, hc, rfl, hb⟩
    rw [get_set hl] at hc
    split at hc
    · cases hc; exact absurd hb.symm hk
    · exact ⟨j, c, hc, rfl, hb⟩
  · rintro ⟨j, c, hc, rfl, hb⟩
    refine ⟨j, c, ?_, rfl, hb⟩
    rw [get_set hl, if_neg]
    · exact hc
    · rintro rfl; rw [hi] at hc; cases hc

theorem ids_remove {S : Slots} {i : Nat} {b : Ses} (hi : S[i]? = some (some b)) (k : Int) : ids (S.set i none) k = (ids S k).filter fun v => v != (i : Int) := by
  have hl : i < S.length := (List.getElem?_eq_some_iff.1 hi).1
  refine sorted_eq (ids_sorted _ _) ((ids_sorted S k).filter _) fun v => ?_
  rw [ids_mem, List.mem_filter, ids_mem]
  constructor
  · rintro ⟨j, c, hc, rfl, hb⟩
    rw [get_set hl] at hc
    split at hc
    · cases hc
    · rename_i e; exact ⟨⟨j, c, hc, rfl, hb⟩, by simp; omega⟩
  · rintro ⟨⟨j, c, hc, rfl, hb⟩, hne⟩
    refine ⟨j, c, ?_, rfl, hb⟩
    rw [get_set hl, if_neg]
    · exact hc
    · rintro rfl; simp at hne

theorem ids_remove_other {S : Slots} {i : Nat} {b : Ses} (hi : S[i]? = some (some b)) {k : Int} (hk : k ≠ b.bd) : ids (S.set i none) k = ids S k := by
  rw [ids_remove hi, List.filter_eq_self]
  intro v hv
  obtain ⟨j, c, hc, rfl, hb⟩ := ids_mem.1 hv
  have : j ≠ i := fun e => by subst e; rw [hi] at hc; cases hc; exact hk hb.symm
  simp; omega

theorem ids_put {S : Slots} {i : Nat} {b b' : Ses} (hi : S[i]? = some (some b)) (he : b'.bd = b.bd) (k : Int) : ids (S.set i (some b')) k = ids S k := by
  have hl : i < S.length := (List.getElem?_eq_some_iff.1 hi).1
  refine sorted_eq (ids_sorted _ _) (ids_sorted _ _) fun v => ?_
  rw [ids_mem, ids_mem]
  constructor
  · rintro ⟨j, c, hc, rfl, hb⟩
    rw [get_set hl] at hc
    split at hc
    · rename_i e; subst e; cases hc; exact ⟨i, b, hi, rfl, by rw [← he, hb]⟩
    · exact ⟨j, c, hc, rfl, hb⟩
  · rintro ⟨j, c, hc, rfl, hb⟩
    by_cases e : i = j
    · subst e
      rw [hi] at hc
      cases hc
      exact ⟨i, b', by rw [get_set hl, if_pos rfl], rfl, by rw [he, hb]⟩
    · exact ⟨j, c, by rw [get_set hl, if_neg e]; exact hc, rfl, hb⟩

theorem ids_len (S : Slots) (k : Int) : (ids S k).length ≤ S.length := by
  unfold ids
  rw [List.length_map]
  exact Nat.le_trans (List.length_filter_le ..) (live_len_le S 0)
end Gp.Ses
