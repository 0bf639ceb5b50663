import Derived.Test.YtcoolonmnjacfaaHolesPure2
import Derived.Test.YtcoolonmnjacfaaMapF
/- Buffers of parts, by their keys: no program in sight. -/
namespace Gp.Jn
open Gp.Hol

abbrev Key := ByteArray
/-- A buffer. -/
structure Bf where
  since : Int
  head : ByteArray
  begun : Bool
  L : List Pc
abbrev JT := List (Key × Bf)

def room (l : List Pc) (off : Int) (b : List UInt8) : Int := if ((off, true, b) : Pc) ∈ l ∨ ((off, false, b) : Pc) ∈ l then 0 else b.length
def jsum (l : JT) : Int := (l.map fun x => sum x.2.L).sum
def clampT (now : Int) : Int := min (max now 0) 1099511627776
def fresh (now : Int) : Bf := ⟨clampT now, ⟨#[]⟩, false, []⟩

/-- The buffer of a key: what there is, or a new one, if there is room. -/
def jopen (many : Int) (l : JT) (k : Key) (now : Int) : Option Bf :=
  match lkF l k with
  | some x => some x
  | none => if many ≤ (l.length : Int) then none else some (fresh now)

def begin_ (x : Bf) (off : Int) (head : ByteArray) : Bf := if off = 0 ∧ x.begun = false then { x with head := head, begun := true } else x
theorem begin_L (x : Bf) (off : Int) (head : ByteArray) : (begin_ x off head).L = x.L := by unfold begin_; split <;> rfl
theorem begin_since (x : Bf) (off : Int) (head : ByteArray) : (begin_ x off head).since = x.since := by unfold begin_; split <;> rfl

def wholeB (L : List Pc) : Bool := decide (0 ≤ lastE L ∧ sum L = lastE L)

structure Out where
  head : ByteArray
  done : Bool
  e : Int
  l : JT

def jput (bytes : Int) (l : JT) (x : Bf) (k : Key) (off : Int) (more : Bool) (b : List UInt8) (head : ByteArray) : Out :=
  if bytes - jsum l < room x.L off b then ⟨⟨#[]⟩, false, 7, l⟩
  else if (Hol.add x.L (off, more, b)).1 ≠ 0 then ⟨⟨#[]⟩, false, (Hol.add x.L (off, more, b)).1, delF l k⟩
  else if wholeB (Hol.add x.L (off, more, b)).2 = true then ⟨(begin_ { x with L := (Hol.add x.L (off, more, b)).2 } off head).head, true, 0, delF l k⟩
  else ⟨⟨#[]⟩, false, 0, upF l k (begin_ { x with L := (Hol.add x.L (off, more, b)).2 } off head)⟩

def jadd (many bytes : Int) (l : JT) (k : Key) (off : Int) (more : Bool) (b : List UInt8) (head : ByteArray) (now : Int) : Out :=
  match jopen many l k now with
  | none => ⟨⟨#[]⟩, false, 7, l⟩
  | some x => jput bytes l x k off more b head

/-! ### Sums -/
theorem jsum_cons (x : Key × Bf) (l : JT) : jsum (x :: l) = sum x.2.L + jsum l := by simp [jsum]

theorem jsum_up (l : JT) (k : Key) (x : Bf) : jsum (upF l k x) = jsum l + sum x.L - (match lkF l k with | some y => sum y.L | none => 0) := by
  induction l with
  | nil => simp [upF, lkF, jsum]
  | cons y l ih =>
    unfold upF lkF
    by_cases h : k = y.1
    · rw [if_pos h, if_pos h, jsum_cons, jsum_cons]; simp only; omega
    · rw [if_neg h, if_neg h, jsum_cons, jsum_cons, ih]; omega

theorem jsum_del (l : JT) (k : Key) : jsum (delF l k) = jsum l - (match lkF l k with | some y => sum y.L | none => 0) := by
  induction l with
  | nil => simp [delF, lkF, jsum]
  | cons y l ih =>
    unfold delF lkF
    by_cases h : k = y.1
    · rw [if_pos h, if_pos h, jsum_cons]; simp only; omega
    · rw [if_neg h, if_neg h, jsum_cons, jsum_cons, ih]; omega

theorem up_len (l : JT) (k : Key) (x : Bf) : (upF l k x).length = if (lkF l k).isSome then l.length else l.length + 1 := by
  induction l with
  | nil => simp [upF, lkF]
  | cons y l ih =>
    unfold upF lkF
    by_cases h : k = y.1
    · rw [if_pos h, if_pos h]; simp
    · rw [if_neg h, if_neg h, List.length_cons, ih]; split <;> simp

theorem sum_snoc (l : List Pc) (p : Pc) : sum (l ++ [p]) = sum l + (p.2.2.length : Int) := by simp [sum]

theorem sum_add (L : List Pc) (off : Int) (more : Bool) (b : List UInt8) : sum (Hol.add L (off, more, b)).2 ≤ sum L + room L off b ∧ sum L ≤ sum (Hol.add L (off, more, b)).2 := by
  have h0 : 0 ≤ room L off b := by unfold room; split <;> omega
  unfold Hol.add
  split
  · simp only; omega
  split
  · simp only; omega
  rename_i hm
  split
  · simp only; omega
  split
  · simp only; omega
  rename_i h1 h2 h3
  simp only [sum_snoc]
  by_cases hr : ((off, true, b) : Pc) ∈ L ∨ ((off, false, b) : Pc) ∈ L
  · -- a twin with the other flag shares its place
    have hsh : ∀ m : Bool, ((off, m, b) : Pc) ∈ L → L.any (sh (off, more, b)) = true := by
      intro m hmem
      refine List.any_eq_true.2 ⟨_, hmem, ?_⟩
      have := sh_self ((off, more, b) : Pc)
      unfold sh pend at this ⊢
      exact this
    rcases hr with h | h
    · exact absurd (hsh _ h) (by simpa using h2)
    · exact absurd (hsh _ h) (by simpa using h2)
  · unfold room
    rw [if_neg hr]
    omega

theorem fresh_sum (now : Int) : sum (fresh now).L = 0 := rfl

theorem jopen_sum {many : Int} {l : JT} {k : Key} {now : Int} {x : Bf} (h : jopen many l k now = some x) : (match lkF l k with | some y => sum y.L | none => 0) = sum x.L ∧ ((lkF l k).isSome = false → (l.length : Int) < many) := by
  unfold jopen at h
  split at h
  · rename_i y hy
    cases h
    rw [hy]; exact ⟨rfl, fun h => by simp at h⟩
  · rename_i hn
    rw [hn]
    split at h
    · cases h
    · cases h
      exact ⟨rfl, fun _ => by omega⟩

theorem del_le (l : JT) (k : Key) : (delF l k).length ≤ l.length := (del_sub l k).length_le

/-- There are never more bytes, nor more buffers, than are allowed. -/
theorem jadd_bounds {many bytes : Int} {l : JT} (h1 : jsum l ≤ bytes) (h2 : (l.length : Int) ≤ many) (k : Key) (off : Int) (more : Bool) (b : List UInt8) (head : ByteArray) (now : Int) :
    jsum (jadd many bytes l k off more b head now).l ≤ bytes ∧ ((jadd many bytes l k off more b head now).l.length : Int) ≤ many := by
  unfold jadd
  split
  · exact ⟨h1, h2⟩
  rename_i x hx
  obtain ⟨hs, hm⟩ := jopen_sum hx
  have hd := jsum_del l k
  have hdl := del_le l k
  have ha := sum_add x.L off more b
  have hxn := sum_nonneg x.L
  unfold jput
  split
  · exact ⟨h1, h2⟩
  rename_i hroom
  split
  · simp only; rw [hd, hs]; exact ⟨by omega, by omega⟩
  split
  · simp only; rw [hd, hs]; exact ⟨by omega, by omega⟩
  · simp only
    rw [jsum_up, hs, begin_L, up_len]
    refine ⟨by simp only; omega, ?_⟩
    cases hc : (lkF l k).isSome with
    | true => simpa using h2
    | false => have := hm hc; simp; omega
end Gp.Jn
