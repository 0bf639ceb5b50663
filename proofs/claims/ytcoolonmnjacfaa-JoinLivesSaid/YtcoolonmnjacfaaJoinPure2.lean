import Derived.Test.YtcoolonmnjacfaaJoinPure
import Derived.Test.YtcoolonmnjacfaaHashSrt
/- Keys that are put in order, and time that passes: no program in sight. -/
namespace Gp.Jn
open Gp.Hol Gp.Hash

/-- A text in its place. -/
noncomputable def insK (l : List Key) (s : Key) : List Key := l.takeWhile (fun x => strLt x s) ++ s :: l.dropWhile fun x => strLt x s
noncomputable def sortK (l : List Key) : List Key := l.foldl insK []
def SrtK (l : List Key) : Prop := l.Pairwise fun a b => strLt b a = false

theorem insK_perm (l : List Key) (s : Key) : (insK l s).Perm (l ++ [s]) := by
  unfold insK
  have h := List.perm_middle (a := s) (l₁ := l.takeWhile fun x => strLt x s) (l₂ := l.dropWhile fun x => strLt x s)
  rw [List.takeWhile_append_dropWhile] at h
  exact h.trans (List.perm_append_singleton s l).symm

theorem insK_mem {l : List Key} {s x : Key} : x ∈ insK l s ↔ x = s ∨ x ∈ l := by
  rw [(insK_perm l s).mem_iff]; simp [or_comm]

theorem insK_srt : ∀ {l : List Key} {s : Key}, SrtK l → SrtK (insK l s)
  | [], s, _ => by simp [insK, SrtK]
  | a :: l, s, h => by
    obtain ⟨a1, a2⟩ := List.pairwise_cons.1 h
    unfold insK
    cases ha : strLt a s with
    | true =>
      rw [List.takeWhile_cons_of_pos (p := fun x : Key => strLt x s) ha, List.dropWhile_cons_of_pos (p := fun x : Key => strLt x s) ha, List.cons_append]
      refine List.pairwise_cons.2 ⟨fun x hx => ?_, insK_srt a2⟩
      rcases insK_mem.1 hx with rfl | e
      · exact kl_asymm ha
      · exact a1 x e
    | false =>
      rw [List.takeWhile_cons_of_neg (p := fun x : Key => strLt x s) (by simp [ha]), List.dropWhile_cons_of_neg (p := fun x : Key => strLt x s) (by simp [ha]), List.nil_append]
      refine List.pairwise_cons.2 ⟨fun x hx => ?_, h⟩
      rcases List.mem_cons.1 hx with rfl | e
      · exact ha
      · cases hc : strLt x s with
        | false => rfl
        | true =>
          -- a ≤ x < s, so a < s or a = .. : against ha
          have h1 := a1 x e
          cases h2 : strLt a x with
          | true => rw [kl_trans h2 hc] at ha; cases ha
          | false => rw [kl_tri h2 h1, hc] at ha; cases ha

theorem sortK_snoc (l : List Key) (s : Key) : sortK (l ++ [s]) = insK (sortK l) s := by simp [sortK]

theorem sortK_ok (l : List Key) : SrtK (sortK l) ∧ (sortK l).Perm l := by
  have key : ∀ (r acc : List Key), SrtK acc → SrtK (r.foldl insK acc) ∧ (r.foldl insK acc).Perm (acc ++ r) := by
    intro r
    induction r with
    | nil => intro acc h; exact ⟨h, by simp⟩
    | cons s r ih =>
      intro acc h
      obtain ⟨h1, h2⟩ := ih (insK acc s) (insK_srt h)
      refine ⟨h1, h2.trans ?_⟩
      have := (insK_perm acc s).append_right r
      simpa using this
  have := key l [] List.Pairwise.nil
  rw [List.nil_append] at this
  exact this

/-- Keys in their order are told by what they are. -/
theorem srtK_one : ∀ {A B : List Key}, SrtK A → SrtK B → A.Perm B → A = B
  | [], B, _, _, hp => (List.Perm.nil_eq hp)
  | a :: A, [], _, _, hp => absurd hp.length_eq (by simp)
  | a :: A, b :: B, ha, hb, hp => by
    obtain ⟨a1, a2⟩ := List.pairwise_cons.1 ha
    obtain ⟨b1, b2⟩ := List.pairwise_cons.1 hb
    have e : a = b := by
      rcases List.mem_cons.1 (hp.mem_iff.1 (List.mem_cons_self ..)) with e | e
      · exact e
      rcases List.mem_cons.1 (hp.mem_iff.2 (List.mem_cons_self ..)) with e' | e'
      · exact e'.symm
      exact kl_tri (b1 a e) (a1 b e')
    subst e
    rw [srtK_one a2 b2 (List.Perm.cons_inv hp)]

def over (wait now : Int) (x : Key × Bf) : Bool := decide (x.2.since ≤ now - wait)
/-- Buffers go that have waited long enough. -/
noncomputable def jexpire (wait now : Int) (l : JT) : List Key × JT :=
  if now < wait then ([], l) else (sortK ((l.filter (over wait now)).map (·.1)), l.filter fun x => !over wait now x)
noncomputable def jkeys (l : JT) : List Key := sortK (l.map (·.1))
theorem jkeys_len (l : JT) : (jkeys l).length = l.length := by
  unfold jkeys; rw [(sortK_ok _).2.length_eq, List.length_map]
end Gp.Jn
