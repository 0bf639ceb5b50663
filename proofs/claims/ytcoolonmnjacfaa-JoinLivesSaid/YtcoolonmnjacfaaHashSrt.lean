import Derived.Test.YtcoolonmnjacfaaHashPure
import Derived.Test.YtcoolonmnjacfaaBytes
/- Keys in their order; a plain table that is sorted, and what a table with open addressing has. -/
namespace Gp.Hash
open Go

theorem bl_irr : ∀ x : List UInt8, Op.bytesLess x x = false
  | [] => rfl
  | a :: x => by simp [Op.bytesLess, bl_irr x]

theorem bl_trans : ∀ x y z : List UInt8, Op.bytesLess x y = true → Op.bytesLess y z = true → Op.bytesLess x z = true
  | _, [], _, h, _ => by simp [Op.bytesLess] at h
  | _, _ :: _, [], _, h => by simp [Op.bytesLess] at h
  | [], _ :: _, _ :: _, _, _ => rfl
  | a :: x, b :: y, c :: z, h1, h2 => by
    simp only [Op.bytesLess, Bool.or_eq_true, decide_eq_true_eq, Bool.and_eq_true, beq_iff_eq] at h1 h2 ⊢
    rcases h1 with h1 | ⟨e1, h1⟩
    · rcases h2 with h2 | ⟨e2, h2⟩
      · exact .inl (UInt8.lt_trans h1 h2)
      · subst e2; exact .inl h1
    · subst e1
      rcases h2 with h2 | ⟨e2, h2⟩
      · exact .inl h2
      · exact .inr ⟨e2, bl_trans x y z h1 h2⟩

theorem bl_tri : ∀ x y : List UInt8, Op.bytesLess x y = false → Op.bytesLess y x = false → x = y
  | [], [], _, _ => rfl
  | [], _ :: _, h, _ => by simp [Op.bytesLess] at h
  | _ :: _, [], _, h => by simp [Op.bytesLess] at h
  | a :: x, b :: y, h1, h2 => by
    simp only [Op.bytesLess, Bool.or_eq_false_iff, decide_eq_false_iff_not, Bool.and_eq_false_iff, beq_eq_false_iff_ne] at h1 h2
    have e : a = b := by
      have a1 := h1.1; have a2 := h2.1
      simp only [UInt8.not_lt] at a1 a2
      exact UInt8.le_antisymm a2 a1
    subst e
    rcases h1.2 with g | g
    · exact absurd rfl g
    rcases h2.2 with g' | g'
    · exact absurd rfl g'
    rw [bl_tri x y g g']

theorem toL_inj {a b : ByteArray} (h : a.toList = b.toList) : a = b := by
  rw [ByteArray.toList_eq, ByteArray.toList_eq] at h
  cases a; cases b
  simp at h
  rw [h]

theorem kl_irr (a : ByteArray) : strLt a a = false := bl_irr _
theorem kl_trans {a b c : ByteArray} (h1 : strLt a b = true) (h2 : strLt b c = true) : strLt a c = true := bl_trans _ _ _ h1 h2
theorem kl_tri {a b : ByteArray} (h1 : strLt a b = false) (h2 : strLt b a = false) : a = b := toL_inj (bl_tri _ _ h1 h2)
theorem kl_asymm {a b : ByteArray} (h1 : strLt a b = true) : strLt b a = false := by
  cases h : strLt b a with
  | false => rfl
  | true => have := kl_trans h1 h; rw [kl_irr] at this; cases this

abbrev KN := ByteArray × Int
def Srt (R : List KN) : Prop := R.Pairwise fun a b => strLt a.1 b.1 = true

theorem srt_ext : ∀ {A B : List KN}, Srt A → Srt B → (∀ x, x ∈ A ↔ x ∈ B) → A = B
  | [], [], _, _, _ => rfl
  | [], b :: B, _, _, h => by have := (h b).2 (by simp); simp at this
  | a :: A, [], _, _, h => by have := (h a).1 (by simp); simp at this
  | a :: A, b :: B, ha, hb, h => by
    obtain ⟨a1, a2⟩ := List.pairwise_cons.1 ha
    obtain ⟨b1, b2⟩ := List.pairwise_cons.1 hb
    have e : a = b := by
      rcases List.mem_cons.1 ((h a).1 (by simp)) with e | e
      · exact e
      rcases List.mem_cons.1 ((h b).2 (by simp)) with e' | e'
      · exact e'.symm
      have h1 := kl_trans (b1 a e) (a1 b e')
      rw [kl_irr] at h1; cases h1
    subst e
    refine congrArg (a :: ·) (srt_ext a2 b2 fun x => ⟨fun hx => ?_, fun hx => ?_⟩)
    · rcases List.mem_cons.1 ((h x).1 (List.mem_cons_of_mem _ hx)) with e | e
      · subst e; have := a1 _ hx; rw [kl_irr] at this; cases this
      · exact e
    · rcases List.mem_cons.1 ((h x).2 (List.mem_cons_of_mem _ hx)) with e | e
      · subst e; have := b1 _ hx; rw [kl_irr] at this; cases this
      · exact e

open Classical in
noncomputable def del (R : List KN) (k : ByteArray) : List KN := R.filter fun x => decide (x.1 ≠ k)
noncomputable def putAt (R : List KN) (k : ByteArray) (n : Int) : List KN := R.takeWhile (fun x => strLt x.1 k) ++ (k, n) :: R.dropWhile fun x => strLt x.1 k

theorem mem_del {R : List KN} {k : ByteArray} {x : KN} : x ∈ del R k ↔ x.1 ≠ k ∧ x ∈ R := by
  unfold del; rw [List.mem_filter]; simp [and_comm]
theorem srt_del {R : List KN} {k : ByteArray} (h : Srt R) : Srt (del R k) := List.Pairwise.filter _ h

theorem mem_putAt {R : List KN} {k : ByteArray} {n : Int} {x : KN} : x ∈ putAt R k n ↔ x = (k, n) ∨ x ∈ R := by
  have e : x ∈ R ↔ x ∈ R.takeWhile (fun x => strLt x.1 k) ++ R.dropWhile fun x => strLt x.1 k := by rw [List.takeWhile_append_dropWhile]
  rw [e, putAt, List.mem_append, List.mem_append, List.mem_cons]
  constructor
  · rintro (h | h | h)
    · exact .inr (.inl h)
    · exact .inl h
    · exact .inr (.inr h)
  · rintro (h | h | h)
    · exact .inr (.inl h)
    · exact .inl h
    · exact .inr (.inr h)

theorem srt_putAt : ∀ {R : List KN} {k : ByteArray} {n : Int}, Srt R → (∀ x ∈ R, x.1 ≠ k) → Srt (putAt R k n)
  | [], k, n, _, _ => by simp [putAt, Srt]
  | a :: R, k, n, h, hk => by
    obtain ⟨a1, a2⟩ := List.pairwise_cons.1 h
    unfold putAt
    cases ha : strLt a.1 k with
    | true =>
      rw [List.takeWhile_cons_of_pos (p := fun x : KN => strLt x.1 k) ha, List.dropWhile_cons_of_pos (p := fun x : KN => strLt x.1 k) ha, List.cons_append]
      refine List.pairwise_cons.2 ⟨fun x hx => ?_, srt_putAt a2 fun x hx => hk x (List.mem_cons_of_mem _ hx)⟩
      rcases mem_putAt.1 hx with e | e
      · subst e; exact ha
      · exact a1 x e
    | false =>
      rw [List.takeWhile_cons_of_neg (p := fun x : KN => strLt x.1 k) (by simp [ha]), List.dropWhile_cons_of_neg (p := fun x : KN => strLt x.1 k) (by simp [ha]), List.nil_append]
      have hka : strLt k a.1 = true := by
        cases hc : strLt k a.1 with
        | true => rfl
        | false => exact absurd (kl_tri ha hc) (hk a (by simp))
      refine List.pairwise_cons.2 ⟨fun x hx => ?_, h⟩
      rcases List.mem_cons.1 hx with e | e
      · subst e; exact hka
      · exact kl_trans hka (a1 x e)

/-- What a sorted table says of each key. -/
structure Rep (R : List KN) (M : ByteArray → Option Int) : Prop where
  srt : Srt R
  mem : ∀ k n, (k, n) ∈ R ↔ M k = some n

open Classical in
theorem rep_del {R : List KN} {M : ByteArray → Option Int} (h : Rep R M) (k : ByteArray) : Rep (del R k) fun x => if x = k then none else M x := by
  refine ⟨srt_del h.srt, fun k' n => ?_⟩
  rw [mem_del, h.mem]
  by_cases e : k' = k
  · subst e; simp
  · simp [e]

open Classical in
theorem rep_put {R : List KN} {M : ByteArray → Option Int} (h : Rep R M) (k : ByteArray) (n : Int) : Rep (putAt (del R k) k n) fun x => if x = k then some n else M x := by
  refine ⟨srt_putAt (srt_del h.srt) fun x hx => (mem_del.1 hx).1, fun k' n' => ?_⟩
  rw [mem_putAt, mem_del, h.mem]
  by_cases e : k' = k
  · subst e; simp [eq_comm]
  · simp [e]

def kn : Ent → KN
  | none => (⟨#[]⟩, 0)
  | some x => x
def full : Ent → Bool
  | none => false
  | some _ => true

theorem cnt_full : ∀ L : List Ent, cnt L = (L.filter full).length
  | [] => rfl
  | none :: L => by rw [cnt, cnt_full L, List.filter_cons_of_neg (by simp [full])]
  | some x :: L => by rw [cnt, cnt_full L, List.filter_cons_of_pos (by simp [full])]; simp

theorem has_mem {L : List Ent} {k : ByteArray} {n : Int} : Has L k n ↔ (k, n) ∈ (L.filter full).map kn := by
  constructor
  · rintro ⟨i, hi⟩
    exact List.mem_map.2 ⟨some (k, n), List.mem_filter.2 ⟨List.mem_of_getElem? hi, rfl⟩, rfl⟩
  · intro h
    obtain ⟨e, he, hk⟩ := List.mem_map.1 h
    obtain ⟨h1, h2⟩ := List.mem_filter.1 he
    obtain ⟨i, hi⟩ := List.getElem?_of_mem h1
    cases e with
    | none => simp [full] at h2
    | some x => simp only [kn] at hk; subst hk; exact ⟨i, hi⟩

theorem keys_ne {L : List Ent} (hd : ∀ (i j : Nat) (k : ByteArray) (n n' : Int), L[i]? = some (some (k, n)) → L[j]? = some (some (k, n')) → i = j) : (L.filter full).Pairwise fun a b => (kn a).1 ≠ (kn b).1 := by
  induction L with
  | nil => simp
  | cons e L ih =>
    have hd' : ∀ (i j : Nat) (k : ByteArray) (n n' : Int), L[i]? = some (some (k, n)) → L[j]? = some (some (k, n')) → i = j := fun i j k n n' h1 h2 => by
      have := hd (i + 1) (j + 1) k n n' (by simpa using h1) (by simpa using h2)
      omega
    cases e with
    | none => rw [List.filter_cons_of_neg (by simp [full])]; exact ih hd'
    | some x =>
      rw [List.filter_cons_of_pos (by simp [full])]
      refine List.pairwise_cons.2 ⟨fun y hy he => ?_, ih hd'⟩
      obtain ⟨h1, h2⟩ := List.mem_filter.1 hy
      obtain ⟨i, hi⟩ := List.getElem?_of_mem h1
      cases y with
      | none => simp [full] at h2
      | some y =>
        simp only [kn] at he
        have := hd 0 (i + 1) x.1 x.2 y.2 (by simp) (by rw [he]; simpa using hi)
        omega

/-- A sorted order of what a table has is the plain table. -/
theorem sorted_is {L ys : List Ent} {R : List KN} {M : ByteArray → Option Int} (hd : ∀ (i j : Nat) (k : ByteArray) (n n' : Int), L[i]? = some (some (k, n)) → L[j]? = some (some (k, n')) → i = j)
    (hm : ∀ k n, M k = some n ↔ Has L k n) (h : Rep R M) (hp : List.Perm ys (L.filter full)) (hs : ys.Pairwise fun a b => strLt (kn b).1 (kn a).1 = false) : ys.map kn = R := by
  have hne : ys.Pairwise fun a b => (kn a).1 ≠ (kn b).1 := hp.symm.pairwise (keys_ne hd) fun h e => h e.symm
  refine srt_ext ?_ h.srt fun x => ?_
  · refine List.pairwise_map.2 ((hne.and hs).imp fun {a b} ⟨h1, h2⟩ => ?_)
    cases hc : strLt (kn a).1 (kn b).1 with
    | true => rfl
    | false => exact absurd (kl_tri hc h2) h1
  · obtain ⟨k, n⟩ := x
    rw [h.mem, hm, has_mem]
    exact (hp.map kn).mem_iff

theorem cnt_len {L : List Ent} {R : List KN} {M : ByteArray → Option Int} (hd : ∀ (i j : Nat) (k : ByteArray) (n n' : Int), L[i]? = some (some (k, n)) → L[j]? = some (some (k, n')) → i = j)
    (hm : ∀ k n, M k = some n ↔ Has L k n) (h : Rep R M) : cnt L = R.length := by
  have h1 : ((L.filter full).map kn).Nodup := List.pairwise_map.2 ((keys_ne hd).imp fun h e => h (by rw [e]))
  have h2 : R.Nodup := h.srt.imp fun {a b} h e => by subst e; rw [kl_irr] at h; cases h
  have h3 : List.Perm ((L.filter full).map kn) R := (List.perm_ext_iff_of_nodup h1 h2).2 fun ⟨k, n⟩ => by rw [← has_mem, ← hm, h.mem]
  rw [cnt_full, ← h3.length_eq, List.length_map]

end Gp.Hash
