import Derived.Test.YtfndjkoiappemaaGreatW7
import Derived.Test.YtfndjkoiappemaaGreatW4
import Derived.Test.YtfndjkoiappemaaGreatW3
section
namespace Go.Proofs.QN
open Gp
def Ae (m : Int) (x : Int) : List Value := [.int .i64 x, .int .i64 m]
def aa9 (x : Int) : List Value := [.int .i64 x]
structure XH (l : List Int) (m : Int) : Prop where
  lo : ∀ x ∈ l, 0 <= x ∧ x <= m
  m0 : 0 <= m
  m1 : m <= 4096
  len : l.length <= 64
structure QR (w : World) (b s : Nat) (l : List Int) (m : Int) : Prop where
  hd : Row w b [.slice (some ⟨s, 0, none⟩) l.length l.length]
  row : Row w s (l.flatMap (Ae m))
  ne : b ≠ s
structure QX (w : World) (b s : Nat) (l : List Int) (m : Int) : Prop where
  hd : Row w b [.slice (some ⟨s, 0, none⟩) l.length l.length, .int .i64 m]
  row : Row w s (l.flatMap aa9)
  ne : b ≠ s
theorem QR.fr {w w' : World} {b s : Nat} {l : List Int} {m : Int} {S : Nat -> Prop} (h : QR w b s l m) (hf : aF w w' S) (h1 : ¬ S b) (h2 : ¬ S s) : QR w' b s l m := ⟨h.hd.fr hf h1, h.row.fr hf h2, h.ne⟩
theorem QX.fr {w w' : World} {b s : Nat} {l : List Int} {m : Int} {S : Nat -> Prop} (h : QX w b s l m) (hf : aF w w' S) (h1 : ¬ S b) (h2 : ¬ S s) : QX w' b s l m := ⟨h.hd.fr hf h1, h.row.fr hf h2, h.ne⟩
def Q7 (l : List Int) (i : Int) : Prop := 0 <= i ∧ i < (l.length : Int)
instance (l : List Int) (i : Int) : Decidable (Q7 l i) := inferInstanceAs (Decidable (_ ∧ _))
def at_ (l : List Int) (i : Int) : Int := l.getD i.toNat 0
def Gf (l : List Int) (m i : Int) : Int × List Int :=
  if Q7 l i then (if at_ l i >= m then (10, l) else (0, l.set i.toNat (at_ l i + 1))) else (1, l)
def EG (l : List Int) (i : Int) : Int × List Int :=
  if Q7 l i then (if at_ l i = 0 then (8, l) else (0, l.set i.toNat (at_ l i - 1))) else (1, l)
def yC (l : List Int) (i : Int) : Int := if Q7 l i then at_ l i else 0
theorem IX {l : List Int} {i : Int} (h : Q7 l i) : l[i.toNat]? = some (at_ l i) := by
  obtain ⟨h0, h1⟩ := h
  have : i.toNat < l.length := by omega
  simp [at_, this]
theorem at_mem {l : List Int} {i : Int} (h : Q7 l i) : at_ l i ∈ l := List.mem_of_getElem? (IX h)
theorem mQ (m x : Int) : (Ae m x).length = 2 := rfl
theorem S_ (x : Int) : (aa9 x).length = 1 := rfl
theorem QR.cell0 {w : World} {b s : Nat} {l : List Int} {m i : Int} (h : QR w b s l m) (hi : Q7 l i) : w.cell? ⟨s, i.toNat * 2, none⟩ = some (.int .i64 (at_ l i)) := by
  rw [h.row.cell, <- Nat.add_zero (i.toNat * 2), flat_get _ 2 (mQ m) _ _ 0 (by omega), IX hi]; rfl
theorem QR.cell1 {w : World} {b s : Nat} {l : List Int} {m i : Int} (h : QR w b s l m) (hi : Q7 l i) : w.cell? ⟨s, i.toNat * 2 + 1, none⟩ = some (.int .i64 m) := by
  rw [h.row.cell, flat_get _ 2 (mQ m) _ _ 1 (by omega), IX hi]; rfl
theorem QX.cell0 {w : World} {b s : Nat} {l : List Int} {m i : Int} (h : QX w b s l m) (hi : Q7 l i) : w.cell? ⟨s, i.toNat * 1, none⟩ = some (.int .i64 (at_ l i)) := by
  rw [h.row.cell, <- Nat.add_zero (i.toNat * 1), flat_get _ 1 S_ _ _ 0 (by omega), IX hi]; rfl
theorem QR.set {w w1 : World} {b s : Nat} {l : List Int} {m i y : Int} (h : QR w b s l m) (hi : Q7 l i) (hr : Row w1 s ((l.flatMap (Ae m)).set (i.toNat * 2) (.int .i64 y))) (hf : aF w w1 (· = s)) :
    QR w1 b s (l.set i.toNat y) m := by
  refine ⟨by simpa using h.hd.fr hf h.ne, ?_, h.ne⟩
  rw [<- Nat.add_zero (i.toNat * 2), yQ _ 2 (mQ m) _ _ 0 (at_ l i) y _ (by omega) (IX hi) rfl] at hr
  exact hr
theorem QX.set {w w1 : World} {b s : Nat} {l : List Int} {m i y : Int} (h : QX w b s l m) (hi : Q7 l i) (hr : Row w1 s ((l.flatMap aa9).set (i.toNat * 1) (.int .i64 y))) (hf : aF w w1 (· = s)) :
    QX w1 b s (l.set i.toNat y) m := by
  refine ⟨by simpa using h.hd.fr hf h.ne, ?_, h.ne⟩
  rw [<- Nat.add_zero (i.toNat * 1), yQ _ 1 S_ _ _ 0 (at_ l i) y _ (by omega) (IX hi) rfl] at hr
  exact hr
theorem Yc {w : World} {b s : Nat} {l : List Int} {m : Int} (h : QR w b s l m) (i : Int) :
    gQ (some ⟨b, 0, none⟩) i w fun p e w' => w' = w ∧ ((Q7 l i ∧ e = 0 ∧ p = some ⟨s, i.toNat * 2, none⟩) ∨ (¬ Q7 l i ∧ e = 1 ∧ p = none)) := by
  apply Gt
  simp only [sx, h.hd.cell]
  by_cases h1 : i < 0
  · have : ¬ Q7 l i := fun x => by have := x.1; omega
    simp [h1, this]
  · by_cases h2 : i >= (l.length : Int)
    · have : ¬ Q7 l i := fun x => by have := x.2; omega
      simp [h1, h2, this]
    · have : Q7 l i := ⟨by omega, by omega⟩
      simp [h1, h2, this, this.1, this.2]
theorem Qh (x m : Int) (w : World) : jd x m w fun r w' => r = decide (x >= m) ∧ ∀ S, aF w w' S := by
  apply DY
  refine oU fun a w1 hr _ _ hf => ?_
  simp only [sx, hr.cell]
  exact ⟨trivial, hf⟩
theorem Z9 {w : World} {b s : Nat} {l : List Int} {m : Int} (h : QR w b s l m) (hq : XH l m) (i : Int) :
    jh (some ⟨b, 0, none⟩) i w fun e w' => e = (Gf l m i).1 ∧ QR w' b s (Gf l m i).2 m ∧ aF w w' (· = s) := by
  apply Ee
  refine rD (Yc h i) ?_
  rintro p e w' ⟨rfl, ⟨hi, rfl, rfl⟩ | ⟨hi, rfl, rfl⟩⟩
  · have hx := hq.lo _ (at_mem hi)
    have hm := hq.m1
    simp only [sx, bne_self_eq_false, h.cell0 hi, h.cell1 hi]
    refine DL (Qh _ _ _) ?_
    rintro r w1 ⟨rfl, hf⟩
    have h1 := h.fr (hf fun _ => False) (by simp) (by simp)
    by_cases hge : at_ l i >= m
    · simp only [hge, decide_true, cond_true]
      simp only [Gf, hi, hge, if_true]
      exact ⟨by trivial, h1, hf _⟩
    · simp only [hge, decide_false, cond_false, au, aC, h1.cell0 hi]
      have hw : IntKind.i64.wrap (at_ l i + 1) = at_ l i + 1 := wrap_i64 (by omega) (by omega)
      rw [hw]
      refine aZ h1.row rfl ?_ fun w2 hr2 hf2 _ => ?_
      · rw [dA _ 2 (mQ m)]; have := hi.1; have := hi.2; omega
      · simp only [Gf, hi, hge, if_true, if_false]
        exact ⟨by trivial, h1.set hi hr2 (hf2 (· = s) rfl), (hf _).trans (hf2 (· = s) rfl) fun _ _ e => e⟩
  · simp only [Gf, hi, if_false]
    exact ⟨by trivial, h, aF.refl _ _⟩
theorem ZQ {w : World} {b s : Nat} {l : List Int} {m : Int} (h : QR w b s l m) (hq : XH l m) (i : Int) :
    iW (some ⟨b, 0, none⟩) i w fun e w' => e = (EG l i).1 ∧ QR w' b s (EG l i).2 m ∧ aF w w' (· = s) := by
  apply DN
  refine rD (Yc h i) ?_
  rintro p e w' ⟨rfl, ⟨hi, rfl, rfl⟩ | ⟨hi, rfl, rfl⟩⟩
  · have hx := hq.lo _ (at_mem hi)
    have hm := hq.m1
    simp only [sx, bne_self_eq_false, h.cell0 hi]
    by_cases h0 : at_ l i = 0
    · simp only [h0, beq_self_eq_true, cond_true]
      simp only [EG, hi, h0, if_true]
      exact ⟨by trivial, h, aF.refl _ _⟩
    · have h0' : (at_ l i == 0) = false := by simpa using h0
      have hw : IntKind.i64.wrap (at_ l i - 1) = at_ l i - 1 := wrap_i64 (by omega) (by omega)
      simp only [h0', cond_false, hw]
      refine aZ h.row rfl ?_ fun w2 hr2 hf2 _ => ?_
      · rw [dA _ 2 (mQ m)]; have := hi.1; have := hi.2; omega
      · simp only [EG, hi, h0, if_true, if_false]
        exact ⟨by trivial, h.set hi hr2 (hf2 (· = s) rfl), hf2 (· = s) rfl⟩
  · simp only [EG, hi, if_false]
    exact ⟨by trivial, h, aF.refl _ _⟩
theorem Yd {w : World} {b s : Nat} {l : List Int} {m : Int} (h : QR w b s l m) (i : Int) :
    iK (some ⟨b, 0, none⟩) i w fun n w' => n = yC l i ∧ w' = w := by
  apply Ba
  refine rD (Yc h i) ?_
  rintro p e w' ⟨rfl, ⟨hi, rfl, rfl⟩ | ⟨hi, rfl, rfl⟩⟩
  · simp only [sx, bne_self_eq_false, h.cell0 hi, yC, hi, if_true, and_self]
  · simp only [yC, hi, if_false]
    exact ⟨by trivial, by trivial⟩
theorem YH (m x : Int) (n : Nat) : (List.replicate n x).flatMap (Ae m) = aJ (Ae m x) n := by
  induction n with
  | zero => rfl
  | succ n ih => simp [List.replicate_succ, aJ, ih]
def Nb (n m : Int) : Prop := 1 <= n ∧ n <= 64 ∧ 0 <= m ∧ m <= 4096
instance (n m : Int) : Decidable (Nb n m) := inferInstanceAs (Decidable (_ ∧ _))
theorem aat {n m : Int} (h : Nb n m) : XH (List.replicate n.toNat 0) m := by
  obtain ⟨h1, h2, h3, h4⟩ := h
  refine ⟨fun x hx => ?_, h3, h4, by simp; omega⟩
  have := (List.mem_replicate.1 hx).2
  omega
def Gh (m : Int) (n k : Nat) : List Value := (List.replicate k (0 : Int)).flatMap (Ae m) ++ (List.replicate (n - k) (0 : Int)).flatMap (Ae 0)
theorem Wv (m : Int) (n k : Nat) (hk : k < n) : (Gh m n k).set (k * 2 + 1) (.int .i64 m) = Gh m n (k + 1) := by
  unfold Gh
  have hl : ((List.replicate k (0 : Int)).flatMap (Ae m)).length = k * 2 := by rw [dA _ 2 (mQ m)]; simp
  rw [List.set_append_right _ _ (by omega), hl]
  obtain ⟨j, hj⟩ : ∃ j, n - k = j + 1 := ⟨n - k - 1, by omega⟩
  have hj2 : n - (k + 1) = j := by omega
  rw [hj, hj2, List.replicate_succ' (n := k), List.flatMap_append]
  simp [List.replicate_succ, Ae]
theorem Xx (m : Int) (n k : Nat) (hk : k <= n) : (Gh m n k).length = n * 2 := by
  unfold Gh
  rw [List.length_append, dA _ 2 (mQ m), dA _ 2 (mQ 0)]
  simp; omega
theorem LP (n m : Int) (w : World) : um n m w fun p e w' =>
    (∀ S, aF w w' S) ∧ ((Nb n m ∧ e = 0 ∧ ∃ b s, p = some ⟨b, 0, none⟩ ∧ w.heap.size <= b ∧ w.heap.size <= s ∧ QR w' b s (List.replicate n.toNat 0) m) ∨ (¬ Nb n m ∧ e = 1 ∧ p = none)) := by
  apply PE
  by_cases hn : Nb n m
  · obtain ⟨h1, h2, h3, h4⟩ := hn
    have c1 : ¬ (n < 1) := by omega
    have c2 : ¬ (n > 64) := by omega
    have c3 : ¬ (m < 0) := by omega
    have c4 : ¬ (m > 4096) := by omega
    simp only [sx, c1, c2, c3, c4, decide_false]
    refine BD (by omega) (by omega) (by omega) (by omega) fun s w1 hr0 hs _ hf1 => ?_
    have hq0 : aJ [Value.int .i64 0, Value.int .i64 0] n.toNat = Gh m n.toNat 0 := by
      unfold Gh
      simp only [List.replicate_zero, List.flatMap_nil, List.nil_append, Nat.sub_zero]
      exact (YH 0 0 _).symm
    rw [hq0] at hr0
    subst hs
    refine oU fun b w2 hr2 hb hsz hf2 => ?_
    simp only [List.getElem?_cons_zero, au, aI, hr2.cell]
    have hb1 := (hf1 fun _ => False).size
    have hs0 : w.heap.size < w1.heap.size := hr0.lt
    refine aG (fun st w' => ∃ k : Nat, k <= n.toNat ∧ st.1 = k ∧ Row w' b [.slice (some ⟨w.heap.size, 0, none⟩) n.toNat n.toNat] ∧ Row w' w.heap.size (Gh m n.toNat k) ∧ ∀ S, aF w w' S)
      (fun st _ => n.toNat - st.1.toNat) ⟨0, by omega, rfl, hr2, hr0.fr (hf2 fun _ => False) (by simp), fun S => (hf1 S).trans (hf2 S) fun _ _ e => e⟩ ?_
    rintro ⟨i, ⟨⟩⟩ w3 ⟨k, hk, rfl, hb3, hr3, hf3⟩ next hnext
    simp only [sx, hb3.cell]
    by_cases hlt : k < n.toNat
    · simp only [hlt, Int.ofNat_lt, decide_true, cond_true, Int.toNat_natCast]
      refine ⟨by omega, by first | trivial | omega, ?_⟩
      refine aZ hr3 rfl (by rw [Xx _ _ _ hk]; omega) fun w4 hr4 hf4 _ => ?_
      rw [Wv _ _ _ hlt] at hr4
      have e2 : IntKind.i64.wrap ((k : Int) + 1) = ((k + 1 : Nat) : Int) := by rw [wrap_i64 (by omega) (by omega)]; omega
      rw [e2]
      refine hnext _ _ ⟨k + 1, by omega, rfl, hb3.fr (hf4 (· = w.heap.size) rfl) (by omega), hr4, fun S => (hf3 S).trans (hf4 (· = w.heap.size) rfl) fun x hx e => by omega⟩ (by simp only; omega)
    · have hk2 : k = n.toNat := by omega
      subst hk2
      simp only [Int.lt_irrefl, decide_false, cond_false]
      refine ⟨hf3, .inl ⟨⟨h1, h2, h3, h4⟩, by trivial, b, w.heap.size, rfl, by omega, by omega, ⟨by simpa using hb3, ?_, by omega⟩⟩⟩
      unfold Gh at hr3
      simpa using hr3
  · have key : (bif decide (n < 1) then true else bif decide (n > 64) then true else bif decide (m < 0) then true else decide (m > 4096)) = true := by
      simp only [Nb] at hn
      by_cases c1 : n < 1
      · simp [c1]
      · by_cases c2 : n > 64
        · simp [c2]
        · by_cases c3 : m < 0
          · simp [c3]
          · simp [c1, c2, c3]; omega
    by_cases c1 : n < 1
    · simp only [sx, c1, decide_true]; exact ⟨fun S => aF.refl _ _, .inr ⟨hn, by trivial, by trivial⟩⟩
    · by_cases c2 : n > 64
      · simp only [sx, c1, c2, decide_true, decide_false]; exact ⟨fun S => aF.refl _ _, .inr ⟨hn, by trivial, by trivial⟩⟩
      · by_cases c3 : m < 0
        · simp only [sx, c1, c2, c3, decide_true, decide_false]; exact ⟨fun S => aF.refl _ _, .inr ⟨hn, by trivial, by trivial⟩⟩
        · have c4 : m > 4096 := by simp only [Nb] at hn; omega
          simp only [sx, c1, c2, c3, c4, decide_true, decide_false]; exact ⟨fun S => aF.refl _ _, .inr ⟨hn, by trivial, by trivial⟩⟩
theorem XT {l : List Int} {m : Int} (h : XH l m) (i : Int) : XH (Gf l m i).2 m := by
  unfold Gf
  split
  · split
    · exact h
    · rename_i hi hge
      refine ⟨fun x hx => ?_, h.m0, h.m1, by simpa using h.len⟩
      rcases List.mem_or_eq_of_mem_set hx with hx | rfl
      · exact h.lo x hx
      · have := h.lo _ (at_mem hi); omega
  · exact h
theorem Zf {l : List Int} {m : Int} (h : XH l m) (i : Int) : XH (EG l i).2 m := by
  unfold EG
  split
  · split
    · exact h
    · rename_i hi hge
      refine ⟨fun x hx => ?_, h.m0, h.m1, by simpa using h.len⟩
      rcases List.mem_or_eq_of_mem_set hx with hx | rfl
      · exact h.lo x hx
      · have := h.lo _ (at_mem hi); omega
  · exact h
structure aaT (w : World) (s : ah) : Prop where
  at_ : ∀ k, k < s.len -> ∃ b o g i, s.a = some ⟨b, o, none⟩ ∧ b < w.heap.size ∧ w.cell? ⟨b, o + k * 2, none⟩ = some (.bool g) ∧ w.cell? ⟨b, o + k * 2 + 1, none⟩ = some (.int .i64 i)
  len : s.len <= 2 ^ 63 - 1
theorem xJ {w w' : World} {b i : Nat} (hf : ∀ S, aF w w' S) (hb : b < w.heap.size) : w'.cell? ⟨b, i, none⟩ = w.cell? ⟨b, i, none⟩ := by
  have := (hf fun _ => False).same b hb (by simp)
  simp [World.cell?, this]
theorem aaT.fr {w w' : World} {s : ah} (h : aaT w s) (hf : ∀ S, aF w w' S) : aaT w' s := by
  refine ⟨fun k hk => ?_, h.len⟩
  obtain ⟨b, o, g, i, h1, h2, h3, h4⟩ := h.at_ k hk
  exact ⟨b, o, g, i, h1, Nat.lt_of_lt_of_le h2 (hf fun _ => False).size, by rw [xJ hf h2]; exact h3, by rw [xJ hf h2]; exact h4⟩
structure Both (w0 w : World) (b1 s1 b2 s2 : Nat) (l : List Int) (m : Int) : Prop where
  r : QR w b1 s1 l m
  x : QX w b2 s2 l m
  q : XH l m
  n1 : w0.heap.size <= b1
  n2 : w0.heap.size <= s1
  n3 : w0.heap.size <= b2
  n4 : w0.heap.size <= s2
  d1 : s1 ≠ b2
  d2 : s1 ≠ s2
  d3 : s2 ≠ b1
theorem Both.fr {w0 w w' : World} {b1 s1 b2 s2 : Nat} {l : List Int} {m : Int} (h : Both w0 w b1 s1 b2 s2 l m) (hf : ∀ S, aF w w' S) : Both w0 w' b1 s1 b2 s2 l m :=
  ⟨h.r.fr (hf fun _ => False) (by simp) (by simp), h.x.fr (hf fun _ => False) (by simp) (by simp), h.q, h.n1, h.n2, h.n3, h.n4, h.d1, h.d2, h.d3⟩
structure One (w0 w : World) (b1 s1 : Nat) (l : List Int) (n m : Int) : Prop where
  r : QR w b1 s1 l m
  q : XH l m
  n1 : w0.heap.size <= b1
  n2 : w0.heap.size <= s1
  ln : l.length = n.toNat
theorem One.fr {w0 w w' : World} {b1 s1 : Nat} {l : List Int} {n m : Int} (h : One w0 w b1 s1 l n m) (hf : ∀ S, aF w w' S) : One w0 w' b1 s1 l n m :=
  ⟨h.r.fr (hf fun _ => False) (by simp) (by simp), h.q, h.n1, h.n2, h.ln⟩
end Go.Proofs.QN
end
section
namespace Gp.Wh
structure Tm where
  id : Int
  a : Nat
  tn : Int
deriving DecidableEq
def Lv (now a n : Nat) : Prop := now / 64 ^ (n + 1) = a / 64 ^ (n + 1) ∧ (n = 0 ∨ now / 64 ^ n ≠ a / 64 ^ n)
def dg (a n : Nat) : Nat := a / 64 ^ n % 64
theorem rG (a n : Nat) : a / 64 ^ (n + 1) = a / 64 ^ n / 64 := by rw [Nat.pow_succ, Nat.div_div_eq_div_mul]
theorem E8 {x y n m : Nat} (h : x / 64 ^ n = y / 64 ^ n) (hm : n <= m) : x / 64 ^ m = y / 64 ^ m := by
  obtain ⟨k, rfl⟩ := Nat.exists_eq_add_of_le hm
  rw [Nat.pow_add, <- Nat.div_div_eq_div_mul, <- Nat.div_div_eq_div_mul, h]
theorem Lv.uniq {now a n m : Nat} (h : Lv now a n) (g : Lv now a m) : n = m := by
  rcases Nat.lt_trichotomy n m with hl | hl | hl
  · exact absurd (E8 h.1 hl) (by rcases g.2 with e | e; omega; exact e)
  · exact hl
  · exact absurd (E8 g.1 hl) (by rcases h.2 with e | e; omega; exact e)
theorem Lv.self (now : Nat) : Lv now now 0 := ⟨rfl, .inl rfl⟩
theorem Gz {a n : Nat} (h : a <= 2 ^ 40) (hn : 7 <= n) : a / 64 ^ n = 0 := by
  refine Nat.div_eq_of_lt (Nat.lt_of_lt_of_le ?_ (Nat.pow_le_pow_right (by omega) hn))
  omega
theorem Lv.lt {now a n : Nat} (h : Lv now a n) (h1 : now <= 2 ^ 40) (h2 : a <= 2 ^ 40) : n < 7 := by
  rcases h.2 with e | e
  · omega
  · refine Classical.byContradiction fun hn => e ?_
    rw [Gz h1 (by omega), Gz h2 (by omega)]
theorem Lv.dig {now a n : Nat} (h : Lv now a n) (hle : now <= a) : dg now n <= dg a n ∧ (0 < n -> dg now n < dg a n) := by
  have h1 := h.1
  rw [rG, rG] at h1
  have h2 : now / 64 ^ n <= a / 64 ^ n := Nat.div_le_div_right hle
  unfold dg
  refine ⟨by omega, fun hn => ?_⟩
  rcases h.2 with e | e
  · omega
  · omega
theorem OQ {x y n : Nat} (h : x / 64 ^ n < y / 64 ^ n) : x < y := by
  refine Classical.byContradiction fun hx => ?_
  have := Nat.div_le_div_right (c := 64 ^ n) (Nat.le_of_not_lt hx)
  omega
theorem Lv.first {now a b n m : Nat} (h : Lv now a n) (g : Lv now b m) (hn : n < m) (hb : now <= b) : a < b := by
  have h1 := E8 h.1 (show n + 1 <= m by omega)
  have h2 := (g.dig hb).2 (by omega)
  have g1 := g.1
  rw [rG, rG] at g1
  unfold dg at h2
  exact OQ (n := m) (by omega)
theorem Lv.slot {now a b n : Nat} (h : Lv now a n) (g : Lv now b n) (hd : dg a n < dg b n) : a < b := by
  have h1 := h.1
  have g1 := g.1
  rw [rG, rG] at h1 g1
  unfold dg at hd
  exact OQ (n := n) (by omega)
abbrev Fs := Nat -> Nat -> List Tm
abbrev Ps := Int -> Option Tm
def qQ (F : Fs) (n k : Nat) (l : List Tm) : Fs := fun n' k' => if n' = n ∧ k' = k then l else F n' k'
def yN (P : Ps) (id : Int) (o : Option Tm) : Ps := fun id' => if id' = id then o else P id'
structure WI (now : Nat) (P : Ps) (F : Fs) : Prop where
  pl : ∀ id t, P id = some t -> t.id = id ∧ now <= t.a ∧ t.a <= 2 ^ 40
  nw : now <= 2 ^ 40
  mem : ∀ n k t, n < 7 -> k < 64 -> (t ∈ F n k ↔ P t.id = some t ∧ Lv now t.a n ∧ dg t.a n = k)
  nd : ∀ n k, n < 7 -> k < 64 -> ((F n k).map Tm.id).Nodup
variable {now : Nat} {P : Ps} {F : Fs}
theorem wG (a n : Nat) : dg a n < 64 := Nat.mod_lt _ (by omega)
theorem Ym (now a : Nat) (h1 : now <= 2 ^ 40) (h2 : a <= 2 ^ 40) : ∃ n, n < 7 ∧ Lv now a n := by
  have : ∀ m, now / 64 ^ m = a / 64 ^ m -> ∃ n, n <= m ∧ Lv now a n := by
    intro m
    induction m with
    | zero => intro h; exact ⟨0, Nat.le_refl _, E8 h (by omega), .inl rfl⟩
    | succ m ih =>
      intro h
      by_cases e : now / 64 ^ m = a / 64 ^ m
      · obtain ⟨n, hn, hl⟩ := ih e
        exact ⟨n, by omega, hl⟩
      · exact ⟨m, by omega, h, .inr e⟩
  obtain ⟨n, _, hl⟩ := this 7 (by rw [Gz h1 (by omega), Gz h2 (by omega)])
  exact ⟨n, hl.lt h1 h2, hl⟩
theorem WI.at_ (h : WI now P F) {id : Int} {t : Tm} (ht : P id = some t) : ∃ n, n < 7 ∧ Lv now t.a n ∧ t ∈ F n (dg t.a n) := by
  obtain ⟨g1, g2, g3⟩ := h.pl id t ht
  obtain ⟨n, hn, hl⟩ := Ym now t.a h.nw g3
  exact ⟨n, hn, hl, (h.mem n _ t hn (wG _ _)).2 ⟨by rw [g1]; exact ht, hl, rfl⟩⟩
theorem WI.take (h : WI now P F) {id : Int} {t : Tm} {n : Nat} (ht : P id = some t) (hl : Lv now t.a n) : WI now (yN P id none) (qQ F n (dg t.a n) ((F n (dg t.a n)).filter fun x => !(x.id == id))) := by
  obtain ⟨g1, g2, g3⟩ := h.pl id t ht
  refine ⟨fun id' u hu => ?_, h.nw, fun n' k' u hn hk => ?_, fun n' k' hn hk => ?_⟩
  · unfold yN at hu
    split at hu
    · cases hu
    · exact h.pl id' u hu
  · unfold qQ yN
    split
    · rename_i e
      obtain ⟨rfl, rfl⟩ := e
      rw [List.mem_filter, h.mem n' _ u hn hk]
      by_cases e : u.id = id
      · rw [if_pos e]; simp [e]
      · rw [if_neg e]; simp [e]
    · rename_i e
      rw [h.mem n' k' u hn hk]
      by_cases eu : u.id = id
      · rw [if_pos eu]
        constructor
        · rintro ⟨h1, h2, h3⟩
          rw [eu, ht] at h1
          cases h1
          exact absurd ⟨h2.uniq hl, by rw [<- h3, h2.uniq hl]⟩ e
        · rintro ⟨h1, _⟩; cases h1
      · rw [if_neg eu]
  · unfold qQ
    split
    · rename_i e
      obtain ⟨rfl, rfl⟩ := e
      exact (h.nd n' _ hn hk).sublist (List.filter_sublist.map _)
    · exact h.nd n' k' hn hk
theorem WI.put (h : WI now P F) {t : Tm} {n : Nat} (hp : P t.id = none) (h1 : now <= t.a) (h2 : t.a <= 2 ^ 40) (hl : Lv now t.a n) : WI now (yN P t.id (some t)) (qQ F n (dg t.a n) (F n (dg t.a n) ++ [t])) := by
  refine ⟨fun id' u hu => ?_, h.nw, fun n' k' u hn hk => ?_, fun n' k' hn hk => ?_⟩
  · unfold yN at hu
    split at hu
    · rename_i e; cases hu; exact ⟨e.symm, h1, h2⟩
    · exact h.pl id' u hu
  · unfold qQ yN
    split
    · rename_i e
      obtain ⟨rfl, rfl⟩ := e
      rw [List.mem_append, List.mem_singleton, h.mem n' _ u hn hk]
      by_cases e : u.id = t.id
      · rw [if_pos e]
        constructor
        · rintro (⟨g1, _⟩ | rfl)
          · rw [e, hp] at g1; cases g1
          · exact ⟨rfl, hl, rfl⟩
        · rintro ⟨g1, _⟩; cases g1; exact .inr rfl
      · rw [if_neg e]
        constructor
        · rintro (g | rfl)
          · exact g
          · exact absurd rfl e
        · exact .inl
    · rename_i e
      rw [h.mem n' k' u hn hk]
      by_cases eu : u.id = t.id
      · rw [if_pos eu]
        constructor
        · rintro ⟨g1, _⟩; rw [eu, hp] at g1; cases g1
        · rintro ⟨g1, g2, g3⟩; cases g1
          exact absurd ⟨g2.uniq hl, by rw [<- g3, g2.uniq hl]⟩ e
      · rw [if_neg eu]
  · unfold qQ
    split
    · rename_i e
      obtain ⟨rfl, rfl⟩ := e
      rw [List.map_append, List.nodup_append]
      refine ⟨h.nd n' _ hn hk, by simp, fun x hx y hy e => ?_⟩
      simp only [List.map_cons, List.map_nil, List.mem_singleton] at hy
      subst hy; subst e
      obtain ⟨u, hu, hx⟩ := List.mem_map.1 hx
      have := ((h.mem n' _ u hn hk).1 hu).1
      rw [hx, hp] at this; cases this
    · exact h.nd n' k' hn hk
theorem WI.next (h : WI now P F) {n k : Nat} {t : Tm} (hn : n < 7) (hk : k < 64) (e1 : ∀ n' k', n' < n -> k' < 64 -> dg now n' <= k' -> F n' k' = []) (e2 : ∀ k', k' < k -> dg now n <= k' -> F n k' = [])
    (ht : t ∈ F n k) (hm : ∀ u ∈ F n k, t.a <= u.a) : P t.id = some t ∧ now <= t.a ∧ ∀ id u, P id = some u -> t.a <= u.a := by
  obtain ⟨g1, g2, g3⟩ := (h.mem n k t hn hk).1 ht
  refine ⟨g1, (h.pl _ _ g1).2.1, fun id u hu => ?_⟩
  obtain ⟨_, p2, p3⟩ := h.pl id u hu
  obtain ⟨m, hm7, hl, hmem⟩ := h.at_ hu
  rcases Nat.lt_trichotomy m n with hmn | rfl | hmn
  · have := e1 m (dg u.a m) hmn (wG _ _) (hl.dig p2).1
    rw [this] at hmem; simp at hmem
  · rcases Nat.lt_trichotomy (dg u.a m) k with hd | hd | hd
    · have := e2 (dg u.a m) hd (hl.dig p2).1
      rw [this] at hmem; simp at hmem
    · rw [hd] at hmem; exact hm u hmem
    · exact Nat.le_of_lt (g2.slot hl (by rw [g3]; exact hd))
  · exact Nat.le_of_lt (g2.first hl hmn p2)
theorem WI.none (h : WI now P F) (e1 : ∀ n' k', n' < 7 -> k' < 64 -> dg now n' <= k' -> F n' k' = []) (id : Int) : P id = none := by
  cases hp : P id with
  | none => rfl
  | some u =>
    obtain ⟨m, hm7, hl, hmem⟩ := h.at_ hp
    have := e1 m (dg u.a m) hm7 (wG _ _) (hl.dig (h.pl _ _ hp).2.1).1
    rw [this] at hmem; simp at hmem
theorem WI.low (h : WI now P F) {to m : Nat} (h1 : now <= to) (hto : ∀ id u, P id = some u -> to <= u.a) (hm : Lv now to m) {n k : Nat} (hn : n < m) (hn7 : n < 7) (hk : k < 64) : F n k = [] := by
  cases hf : F n k with
  | nil => rfl
  | cons u r =>
    obtain ⟨g1, g2, _⟩ := (h.mem n k u hn7 hk).1 (by rw [hf]; simp)
    have := g2.first hm hn h1
    have := hto _ _ g1
    omega
def rest (P : Ps) (M : List Tm) : Ps := fun id => match P id with | some t => if t ∈ M then none else some t | none => none
theorem qH {P : Ps} {M : List Tm} {id : Int} {t : Tm} : rest P M id = some t ↔ P id = some t ∧ t ∉ M := by
  unfold rest
  cases hp : P id with
  | none => simp
  | some u =>
    by_cases hu : u ∈ M
    · simp only [hu, if_true]
      constructor
      · intro h; cases h
      · rintro ⟨h, h2⟩; cases h; exact absurd hu h2
    · simp only [hu, if_false, Option.some.injEq]
      constructor
      · rintro rfl; exact ⟨rfl, hu⟩
      · rintro ⟨h, _⟩; exact h
theorem YT (P : Ps) : rest P [] = P := by
  funext id
  unfold rest
  cases P id <;> simp
theorem WI.turn (h : WI now P F) {to m : Nat} (h1 : now <= to) (h2 : to <= 2 ^ 40) (hto : ∀ id u, P id = some u -> to <= u.a) (hm : Lv now to m) :
    WI to (rest P (if m = 0 then [] else F m (dg to m))) (if m = 0 then F else qQ F m (dg to m) []) := by
  have m7 := hm.lt h.nw h2
  have low := fun {n k : Nat} => h.low (n := n) (k := k) h1 hto hm
  have lvl : ∀ u n, (∃ id, P id = some u) -> Lv now u.a n -> n < 7 -> (n < m -> False) ∧ (m < n -> Lv to u.a n) ∧ (n = m -> (m = 0 ∨ dg u.a m ≠ dg to m) -> Lv to u.a n) := by
    rintro u n ⟨id, hu⟩ hl hn7
    refine ⟨fun hlt => ?_, fun hlt => ?_, fun e hd => ?_⟩
    · have := (h.mem n (dg u.a n) u hn7 (wG _ _)).2 ⟨by rw [(h.pl _ _ hu).1]; exact hu, hl, rfl⟩
      rw [low hlt hn7 (wG _ _)] at this
      simp at this
    · refine ⟨?_, .inr ?_⟩
      · rw [<- hl.1]; exact (E8 hm.1 (by omega)).symm
      · rw [<- E8 hm.1 (show m + 1 <= n by omega)]
        rcases hl.2 with e | e
        · omega
        · exact e
    · subst e
      refine ⟨?_, ?_⟩
      · rw [<- hl.1]; exact hm.1.symm
      · rcases hd with e | e
        · exact .inl e
        · refine .inr fun he => e ?_
          unfold dg; rw [he]
  have back : ∀ u n, (∃ id, P id = some u) -> Lv to u.a n -> n < 7 -> (m < n -> Lv now u.a n) ∧ (n = m -> m = 0 ∨ Lv now u.a m) := by
    rintro u n ⟨id, hu⟩ hl hn7
    obtain ⟨k, hk7, hk⟩ := Ym now u.a h.nw (h.pl _ _ hu).2.2
    have := lvl u k ⟨id, hu⟩ hk hk7
    refine ⟨fun hlt => ?_, fun e => ?_⟩
    · rcases Nat.lt_trichotomy k m with hkm | hkm | hkm
      · exact (this.1 hkm).elim
      · by_cases hz : m = 0 ∨ dg u.a m ≠ dg to m
        · have := (this.2.2 hkm hz).uniq hl; omega
        · exfalso
          simp only [not_or, Classical.not_not] at hz
          have e1 := hk.1
          rw [hkm] at e1
          have e2 : to / 64 ^ m = u.a / 64 ^ m := by
            have e3 := hm.1
            rw [rG, rG] at e1 e3
            unfold dg at hz
            omega
          have := E8 e2 (show m <= n by omega)
          rcases hl.2 with e | e
          · omega
          · exact e this
      · have := (this.2.1 hkm).uniq hl; rw [<- this]; exact hk
    · subst e
      rcases Nat.lt_trichotomy k n with hkm | hkm | hkm
      · exact (this.1 hkm).elim
      · subst hkm; exact .inr hk
      · have := (this.2.1 hkm).uniq hl; omega
  refine ⟨fun id u hu => ?_, h2, fun n k u hn hk => ?_, fun n k hn hk => ?_⟩
  · obtain ⟨g1, _⟩ := qH.1 hu
    exact ⟨(h.pl id u g1).1, hto id u g1, (h.pl id u g1).2.2⟩
  · rw [qH]
    by_cases hz : m = 0
    · rw [if_pos hz, if_pos hz, h.mem n k u hn hk]
      constructor
      · rintro ⟨g1, g2, g3⟩
        refine ⟨⟨g1, by simp⟩, ?_, g3⟩
        rcases Nat.lt_trichotomy n m with hnm | hnm | hnm
        · omega
        · exact (lvl u n ⟨_, g1⟩ g2 hn).2.2 hnm (.inl hz)
        · exact (lvl u n ⟨_, g1⟩ g2 hn).2.1 hnm
      · rintro ⟨⟨g1, _⟩, g2, g3⟩
        refine ⟨g1, ?_, g3⟩
        rcases Nat.lt_trichotomy n m with hnm | hnm | hnm
        · omega
        · subst hnm; subst hz
          refine ⟨?_, .inl rfl⟩
          rw [hm.1]; exact g2.1
        · exact (back u n ⟨_, g1⟩ g2 hn).1 hnm
    · rw [if_neg hz, if_neg hz]
      have inM : ∀ u, u ∈ F m (dg to m) ↔ P u.id = some u ∧ Lv now u.a m ∧ dg u.a m = dg to m := fun u => h.mem m _ u m7 (wG _ _)
      unfold qQ
      split
      · rename_i e
        obtain ⟨rfl, rfl⟩ := e
        constructor
        · intro hx; simp at hx
        · rintro ⟨⟨g1, g2⟩, g3, g4⟩
          exfalso
          rcases (back u n ⟨_, g1⟩ g3 hn).2 rfl with e | e
          · exact hz e
          · exact g2 ((inM u).2 ⟨g1, e, g4⟩)
      · rename_i hne
        rw [h.mem n k u hn hk]
        constructor
        · rintro ⟨g1, g2, g3⟩
          have hnot : u ∉ F m (dg to m) := fun hx => by
            obtain ⟨_, q2, q3⟩ := (inM u).1 hx
            have := g2.uniq q2
            exact hne ⟨this, by rw [<- g3, this, q3]⟩
          refine ⟨⟨g1, hnot⟩, ?_, g3⟩
          rcases Nat.lt_trichotomy n m with hnm | hnm | hnm
          · exact ((lvl u n ⟨_, g1⟩ g2 hn).1 hnm).elim
          · refine (lvl u n ⟨_, g1⟩ g2 hn).2.2 hnm (.inr fun e => hne ⟨hnm, ?_⟩)
            rw [<- g3, hnm, e]
          · exact (lvl u n ⟨_, g1⟩ g2 hn).2.1 hnm
        · rintro ⟨⟨g1, g2⟩, g3, g4⟩
          refine ⟨g1, ?_, g4⟩
          rcases Nat.lt_trichotomy n m with hnm | hnm | hnm
          · exfalso
            obtain ⟨j, hj7, hj⟩ := Ym now u.a h.nw (h.pl _ _ g1).2.2
            have := lvl u j ⟨_, g1⟩ hj hj7
            rcases Nat.lt_trichotomy j m with q | q | q
            · exact this.1 q
            · by_cases hd : dg u.a m = dg to m
              · exact g2 ((inM u).2 ⟨g1, q ▸ hj, hd⟩)
              · have := (this.2.2 q (.inr hd)).uniq g3; omega
            · have := (this.2.1 q).uniq g3; omega
          · rcases (back u n ⟨_, g1⟩ g3 hn).2 hnm with e | e
            · exact absurd e hz
            · rw [hnm]; exact e
          · exact (back u n ⟨_, g1⟩ g3 hn).1 hnm
  · by_cases hz : m = 0
    · rw [if_pos hz]; exact h.nd n k hn hk
    · rw [if_neg hz]
      unfold qQ
      split
      · simp
      · exact h.nd n k hn hk
theorem WG {P : Ps} {t : Tm} {M : List Tm} (hp : P t.id = some t) (hid : ∀ id u, P id = some u -> u.id = id) (ht : t ∉ M) : yN (rest P (t :: M)) t.id (some t) = rest P M := by
  funext id
  unfold yN
  split
  · rename_i e; subst e
    exact (qH.2 ⟨hp, ht⟩).symm
  · rename_i e
    unfold rest
    cases hu : P id with
    | none => rfl
    | some u =>
      have : u ≠ t := fun h => e (by rw [<- hid id u hu, h])
      simp [this]
theorem WI.VY (h : WI now P F) {t : Tm} : t ∈ F 0 (dg now 0) ↔ P t.id = some t ∧ t.a = now := by
  rw [h.mem 0 _ t (by omega) (wG _ _)]
  constructor
  · rintro ⟨h1, h2, h3⟩
    refine ⟨h1, ?_⟩
    have := h2.1
    unfold dg at h3
    simp only [Nat.pow_zero, Nat.div_one, Nat.zero_add, Nat.pow_one] at h3 this
    omega
  · rintro ⟨h1, h2⟩
    rw [h2]
    exact ⟨h1, Lv.self now, rfl⟩
theorem WI.due (h : WI now P F) : WI now (rest P (F 0 (dg now 0))) (qQ F 0 (dg now 0) []) := by
  refine ⟨fun id u hu => h.pl id u (qH.1 hu).1, h.nw, fun n k u hn hk => ?_, fun n k hn hk => ?_⟩
  · rw [qH]
    unfold qQ
    split
    · rename_i e
      obtain ⟨rfl, rfl⟩ := e
      constructor
      · intro hx; simp at hx
      · rintro ⟨⟨g1, g2⟩, g3, g4⟩
        exact (g2 ((h.mem 0 _ u hn hk).2 ⟨g1, g3, g4⟩)).elim
    · rename_i hne
      rw [h.mem n k u hn hk]
      constructor
      · rintro ⟨g1, g2, g3⟩
        refine ⟨⟨g1, fun hx => ?_⟩, g2, g3⟩
        obtain ⟨_, q2, q3⟩ := (h.mem 0 _ u (by omega) (wG _ _)).1 hx
        have := g2.uniq q2
        exact hne ⟨this, by rw [<- g3, this, q3]⟩
      · rintro ⟨⟨g1, _⟩, g2, g3⟩
        exact ⟨g1, g2, g3⟩
  · unfold qQ
    split
    · simp
    · exact h.nd n k hn hk
end Gp.Wh
end
section
namespace Go.Proofs.WN
open Gp Gp.Wh
set_option maxRecDepth 100000
abbrev eT (t : Tm) : List Value := [.int .i64 t.id, .int .i64 (t.a : Int), .int .i64 t.tn]
theorem iE (t : Tm) : (eT t).length = 3 := rfl
theorem P9 (t : Tm) : ∀ v ∈ eT t, bK v = true := by
  intro v hv
  simp only [eT, List.mem_cons, List.not_mem_nil, or_false] at hv
  rcases hv with rfl | rfl | rfl <;> rfl
theorem ji {f : FuncId} {cap : Array Value} {sh : List Shape} {args : List Value} {w : World} {K : Value -> World -> Prop} (hb : lY Tryz.prog f = true) (h : GK Tryz.prog sh f (args ++ cap.toList) w K) :
    fM Tryz.prog sh (.func (.func f) #[] cap) args w K := by
  unfold fM
  simp only [hb, cond_true]
  exact h
theorem dS {α : Type} {n : Nat} {f : α -> List Value} {w : World} {s : ah} {xs : List α} (hn : ∀ x, (f x).length = n) (hn0 : 0 < n) (h : iM n f w s xs) {i : Int} {K : Addr -> Prop} {x : α} (h0 : 0 <= i) (hx : xs[i.toNat]? = some x)
    (hK : ∀ a : Addr, (∀ j v, (f x)[j]? = some v -> w.cell? (a.add j) = some v) -> K a) : bM s n i K := by
  obtain ⟨a, ha, hc⟩ := h.at_ hn hn0 hx
  have hlt := (List.getElem?_eq_some_iff.1 hx).1
  obtain ⟨sa, sl, sc⟩ := s
  simp only at ha
  subst ha
  have hl : sl = xs.length := h.len
  refine (yI ..).2 ⟨h0, by omega, hK _ fun j v hj => ?_⟩
  rw [<- hc j v hj]
  congr 1
  obtain ⟨b, o, t⟩ := a
  unfold Addr.add
  by_cases h1 : i.toNat * n = 0 <;> by_cases h2 : j = 0 <;> simp [h1, h2, Nat.add_assoc]
theorem OA {w : World} {s : ah} {l : List Tm} (h : iM 3 eT w s l) {k : Nat} {z : Tm} (hk : l[k]? = some z) {K : Addr -> Prop} (hK : ∀ a, w.cell? (a.add 0) = some (.int .i64 z.id) -> w.cell? (a.add 1) = some (.int .i64 (z.a : Int)) -> w.cell? (a.add 2) = some (.int .i64 z.tn) -> K a) : bM s 3 (k : Int) K :=
  dS iE (by omega) h (by omega) (by rw [Int.toNat_natCast]; exact hk) fun a hc => hK a (hc 0 _ rfl) (hc 1 _ rfl) (hc 2 _ rfl)
theorem Tt (a : Int) (w : World) : jr a w fun r w' => r = false ∧ w' = w := by
  apply Ib
  exact ⟨by simp, rfl⟩
def PI (a b : Int) : Int := if a < b then -1 else if a > b then 1 else 0
theorem Ll (a b : Int) (w : World) : ig a b w fun r w' => r = PI a b ∧ w' = w := by
  apply EX
  refine yY (Tt _ _) ?_
  rintro r w1 ⟨rfl, hw⟩
  subst hw
  refine yY (Tt _ _) ?_
  rintro r w1 ⟨rfl, hw⟩
  subst hw
  unfold PI
  by_cases h1 : a < b
  · simp only [h1, decide_true, cond_true, cond_false, if_true]; exact ⟨by trivial, by trivial⟩
  · by_cases h2 : a > b
    · simp only [h1, h2, decide_true, decide_false, cond_true, cond_false, if_true, if_false]; exact ⟨by trivial, by trivial⟩
    · simp only [h1, h2, decide_false, cond_false, if_false]; exact ⟨by trivial, by trivial⟩
def FnT (v : Value) (C : World -> Prop) (p : Tm -> Bool) : Prop := ∀ x W (K : Value -> World -> Prop), C W -> (∀ W', Ext W W' -> K (.bool (p x)) W') -> fM Tryz.prog [.one .bool] v [.agg ⟨eT x⟩] W K
theorem MP {w : World} {s : ah} {xs : List Tm} (hs : iM 3 eT w s xs) (hl : xs.length <= 2 ^ 30) :
    bG s w fun r w' => Ext w w' ∧ dn 3 eT w' r xs ∧ ∀ b, ah.at r b -> w.heap.size <= b := by
  apply mM
  have hlen := hs.len
  cases ha : s.a with
  | none =>
    have hc := hs.cells
    rw [ha] at hc
    have h0 : xs.flatMap eT = [] := hc
    have hfl := dA eT 3 iE xs
    rw [h0] at hfl
    have : xs = [] := by
      cases xs with
      | nil => rfl
      | cons _ _ => simp only [List.length_cons, List.length_nil] at hfl; omega
    subst this
    simp only [Option.isNone_none, cond_true]
    exact ⟨Ext.refl _, dn.nil, fun b ⟨o, hb⟩ => by cases hb⟩
  | some a =>
    simp only [Option.isNone_some, cond_false]
    refine aN fun t w1 rt et zt f1 => ?_
    have hb : dn 3 eT w1 ⟨some ⟨t, 0, none⟩, 0, 0⟩ ([] : List Tm) := dn.row (xs := []) rt
    refine iU iE hb (hs.ext f1) rfl (by omega) P9 (by simp only [List.length_nil]; omega) (by simp only [List.length_nil]; omega) fun s' w' h1 h2 h3 => ?_
    refine ⟨f1.new h2 fun b hb ⟨o, he⟩ => by cases he; omega, h1, fun b hb => ?_⟩
    rcases h3 b hb with ⟨o, he⟩ | h
    · cases he; omega
    · omega
theorem aaY {w : World} {s : ah} {xs : List Tm} {v : Value} {p : Tm -> Bool} {C : World -> Prop} (hs : iM 3 eT w s xs) (hl : xs.length <= 2 ^ 30) (hp : FnT v C p) (hC : ∀ W, Ext w W -> C W) :
    aW s v w fun r w' => ((r = -1 ∧ xs.any p = false) ∨ ∃ j : Nat, r = (j : Int) ∧ j < xs.length ∧ (xs.take j).any p = false ∧ (xs.take (j + 1)).filter (fun x => !p x) = xs.take j) ∧ Ext w w' := by
  apply kD
  have hlen := hs.len
  refine aG (fun st W => ∃ j : Nat, j <= xs.length ∧ st.1 = (j : Int) ∧ Ext w W ∧ (xs.take j).any p = false) (fun st _ => (s.len - st.1).toNat) ⟨0, by omega, rfl, Ext.refl _, by simp⟩ ?_
  rintro ⟨i, ⟨⟩⟩ W ⟨j, hj, hi, hx, hm⟩ next hnext
  simp only at hi
  subst hi
  by_cases hlt : (j : Int) < (s.len : Int)
  · simp only [hlt, decide_true, cond_true]
    have hxj := List.getElem?_eq_getElem (show j < xs.length by omega)
    generalize xs[j] = x at hxj
    have htk : xs.take (j + 1) = xs.take j ++ [x] := by rw [List.take_add_one, hxj]; rfl
    refine OA (hs.ext hx) hxj fun a c0 c1 c2 => ?_
    simp only [sx, c0, c1, c2]
    refine hp x W _ (hC W hx) fun W' hf => ⟨p x, rfl, ?_⟩
    cases he : p x
    · simp only [cond_false]
      rw [wrap_i64 (by omega) (by omega)]
      refine hnext _ _ ⟨j + 1, by omega, by simp, hx.trans hf, ?_⟩ (by simp only; omega)
      rw [htk, List.any_append, hm, List.any_cons, he, List.any_nil]; rfl
    · simp only [cond_true]
      refine ⟨.inr ⟨j, rfl, by omega, hm, ?_⟩, hx.trans hf⟩
      rw [htk, List.filter_append, List.filter_eq_self.2 (fun y hy => by have := List.any_eq_false.1 hm y hy; simpa using this)]
      simp [he]
  · simp only [hlt, decide_false, cond_false]
    rw [List.take_of_length_le (by omega)] at hm
    exact ⟨.inl ⟨by trivial, hm⟩, hx⟩
theorem Xv {w : World} {b o n c : Nat} {L : List Value} {K : World -> Prop} (hr : Row w b L) (ho : o + n * 3 <= L.length) (hK : ∀ w', Row w' b (spl L o (aJ [.int .i64 0, .int .i64 0, .int .i64 0] n)) -> aF w w' (· = b) -> K w') : Kw [.int .i64 0, .int .i64 0, .int .i64 0] ⟨some ⟨b, o, none⟩, n, c⟩ w K := by
  have hrl : (aJ [Value.int .i64 0, Value.int .i64 0, Value.int .i64 0] n).length = n * 3 := by rw [vF]; rfl
  refine ⟨?_, by intro v hv; simp only [List.mem_cons, List.not_mem_nil, or_false] at hv; rcases hv with rfl | rfl | rfl <;> rfl, ?_⟩
  · rintro a ha
    cases ha
    intro j hj
    simp only [List.length_cons, List.length_nil] at hj
    rw [iC, hr.cell]
    exact ⟨by simp; omega, hr.frozen _⟩
  · obtain ⟨r, f⟩ := vG (aJ [Value.int .i64 0, Value.int .i64 0, Value.int .i64 0] n) w L o 0 hr (by omega)
    refine hK _ ?_ (f (· = b) rfl)
    simpa [spl] using r
theorem P7 {w : World} {s : ah} {xs : List Tm} {v : Value} {p : Tm -> Bool} {C : World -> Prop} (hs : dn 3 eT w s xs) (hl : xs.length <= 2 ^ 30) (hp : FnT v C p) (hC : ∀ W, aF w W (ah.at s) -> C W) :
    aK s v w fun r w' => dn 3 eT w' r (xs.filter fun x => !p x) ∧ aF w w' (ah.at s) ∧ ∀ b, ah.at r b -> ah.at s b := by
  apply jW
  have hlen := hs.len
  have hsl := hs.sl iE (by omega)
  have hcap := hsl.cap
  refine kF (aaY hsl hl hp fun W hx => hC W (hx _)) ?_
  rintro r w1 ⟨h, x1⟩
  have hs1 := hs.ext x1
  rcases h with ⟨rfl, hno⟩ | ⟨i0, rfl, hi0, hany, hfil⟩
  · rw [show ((-1 : Int) == -1) = true from rfl, cond_true]
    refine ⟨?_, x1 _, fun b hb => hb⟩
    rw [List.filter_eq_self.2 (fun y hy => by have := List.any_eq_false.1 hno y hy; simpa using this)]
    exact hs1
  rw [show ((i0 : Int) == -1) = false from beq_eq_false_iff_ne.2 (by omega), cond_false]
  obtain ⟨b, pad, ha, hc, hr⟩ : ∃ b pad, s.a = some ⟨b, 0, none⟩ ∧ s.cap * 3 = xs.length * 3 + pad.length ∧ Row w1 b (xs.flatMap eT ++ pad) := by
    rcases hs1.mem with ⟨_, h, _⟩ | h
    · rw [h] at hi0; simp at hi0
    · exact h
  obtain ⟨sa, sl, sc⟩ := s
  simp only at ha hc hlen hcap
  subst ha
  subst hlen
  rw [wrap_i64 (n := (i0 : Int) + 1) (by omega) (by omega)]
  have hat : ∀ {W}, aF w1 W (· = b) -> aF w W (ah.at ⟨some ⟨b, 0, none⟩, xs.length, sc⟩) := fun hf => (x1 _).trans (hf.mono fun c hc => ⟨0, by rw [hc]⟩) fun _ _ h => h
  have fl3 : ∀ ys : List Tm, (ys.flatMap eT).length = ys.length * 3 := fun ys => dA eT 3 iE ys
  refine aG (fun st W => ∃ j : Nat, j <= xs.length ∧ st.2.1 = (j : Int) ∧ st.1 = (((xs.take j).filter fun x => !p x).length : Int) ∧ ((xs.take j).filter fun x => !p x).length < j ∧ aF w1 W (· = b) ∧ ∃ mid, mid.length = (j - ((xs.take j).filter fun x => !p x).length) * 3 ∧ Row W b (((xs.take j).filter fun x => !p x).flatMap eT ++ (mid ++ ((xs.drop j).flatMap eT ++ pad))))
    (fun st _ => (xs.length - st.2.1).toNat) ⟨i0 + 1, by omega, by simp, by rw [hfil, List.length_take, Nat.min_eq_left (by omega)], by rw [hfil, List.length_take]; omega, aF.refl _ _, ?_⟩ ?_
  · rw [hfil, List.length_take, Nat.min_eq_left (by omega)]
    refine ⟨eT xs[i0], by rw [iE]; omega, ?_⟩
    have : xs.flatMap eT = (xs.take i0).flatMap eT ++ (eT xs[i0] ++ (xs.drop (i0 + 1)).flatMap eT) := by
      conv => lhs; rw [<- List.take_append_drop i0 xs, List.drop_eq_getElem_cons hi0, List.flatMap_append, List.flatMap_cons]
    rw [this] at hr
    simpa only [List.append_assoc] using hr
  rintro ⟨i', j', ⟨⟩⟩ W ⟨j, hj, hj1, hi1, hij, hf, mid, hmid, hrW⟩ next hnext
  simp only at hj1 hi1
  subst hj1 hi1
  generalize hkp : (xs.take j).filter (fun x => !p x) = kp at *
  by_cases hlt : (j : Int) < (xs.length : Int)
  · rw [decide_eq_true hlt, cond_true]
    intro J
    have hx := List.getElem?_eq_getElem (show j < xs.length by omega)
    have hdr := List.drop_eq_getElem_cons (show j < xs.length by omega)
    generalize xs[j] = x at hx hdr
    have htk : xs.take (j + 1) = xs.take j ++ [x] := by rw [List.take_add_one, hx]; rfl
    rw [hdr, List.flatMap_cons] at hrW
    have hcell : ∀ m, m < 3 -> W.cell? ⟨b, j * 3 + m, none⟩ = (eT x)[m]? := by
      intro m hm
      rw [hrW.cell, List.getElem?_append_right (by rw [fl3]; omega), List.getElem?_append_right (by rw [fl3]; omega), fl3, hmid, show j * 3 + m - kp.length * 3 - (j - kp.length) * 3 = m by omega, List.append_assoc, List.getElem?_append_left (by rw [iE]; omega)]
    have q0 := hcell 0 (by omega)
    have q1 := hcell 1 (by omega)
    have q2 := hcell 2 (by omega)
    simp only [Nat.add_zero, eT, List.getElem?_cons_zero, List.getElem?_cons_succ] at q0 q1 q2
    refine (yI _ xs.length sc _ (j : Int) _).2 ⟨by omega, by omega, ?_⟩
    rw [iC, Nat.zero_add, Int.toNat_natCast]
    simp -zeta only [sx, q0, q1, q2]
    refine yG rfl rfl fun z w2 r2 e2 z2 f2 => ?_
    simp -zeta only [sx, r2.cell]
    have hf2 := hf.ext f2
    refine hp x w2 _ (hC w2 (hat hf2)) fun w3 f3 => ⟨p x, rfl, ?_⟩
    have hf3 := hf2.ext f3
    have r3 := r2.ext f3
    have hrW3 := (hrW.ext f2).ext f3
    cases he : p x
    · rw [Bool.not_false, cond_true]
      simp -zeta only [List.getElem?_cons_zero, List.getElem?_cons_succ, au, aC, r3.cell]
      have hfl : (xs.take (j + 1)).filter (fun x => !p x) = kp ++ [x] := by rw [htk, List.filter_append, hkp]; simp [he]
      refine ⟨by omega, by omega, ?_⟩
      rw [Int.toNat_natCast]
      refine Hw (eT x) w3 _ (kp.length * 3) 0 hrW3 (P9 x) (by simp only [List.length_append, fl3, iE]; omega) fun W2 rr2 g2 zz2 => ?_
      obtain ⟨m0, m1, hms, hm0⟩ : ∃ m0 m1, mid = m0 ++ m1 ∧ m0.length = 3 := ⟨mid.take 3, mid.drop 3, (List.take_append_drop ..).symm, by rw [List.length_take]; omega⟩
      subst hms
      have hsp : ∀ (A B C D : List Value), B.length = 3 -> A.length = kp.length * 3 -> (A ++ (B ++ C ++ D)).take (kp.length * 3 + 0) ++ eT x ++ (A ++ (B ++ C ++ D)).drop (kp.length * 3 + 0 + (eT x).length) = A ++ (eT x ++ (C ++ D)) := by
        intro A B C D hB hA
        rw [Nat.add_zero, <- hA, List.take_left' rfl, iE, <- hB, <- List.drop_drop, List.drop_left' rfl, List.append_assoc B, List.drop_left' rfl, List.append_assoc]
      rw [hsp _ _ _ _ hm0 (fl3 kp)] at rr2
      simp only [J]
      rw [wrap_i64 (by omega) (by omega), wrap_i64 (by omega) (by omega)]
      rw [List.length_append, hm0] at hmid
      refine hnext _ _ ⟨j + 1, by omega, by simp, by rw [hfl]; simp, by rw [hfl]; simp; omega, hf3.trans (g2 (· = b) rfl) fun _ _ e => e, m1 ++ eT x, by rw [hfl, List.length_append, iE, List.length_append, List.length_singleton]; omega, ?_⟩ (by simp only; omega)
      rw [hfl, List.flatMap_append]
      simpa [List.append_assoc] using rr2
    · rw [Bool.not_true, cond_false]
      have hfl : (xs.take (j + 1)).filter (fun x => !p x) = kp := by rw [htk, List.filter_append, hkp]; simp [he]
      simp only [J]
      rw [wrap_i64 (by omega) (by omega)]
      refine hnext _ _ ⟨j + 1, by omega, by simp, by rw [hfl], by rw [hfl]; omega, hf3, mid ++ eT x, by rw [hfl, List.length_append, iE]; omega, ?_⟩ (by simp only; omega)
      rw [hfl]
      simpa only [List.append_assoc] using hrW3
  · rw [decide_eq_false hlt, cond_false]
    have hje : j = xs.length := by omega
    subst hje
    rw [List.take_length] at hkp
    rw [List.drop_length, List.flatMap_nil, List.nil_append] at hrW
    refine ⟨by (try simp only); omega, by (try simp only); omega, by (try simp only); omega, ?_⟩
    simp only [Int.toNat_natCast]
    have hne : sc ≠ kp.length := by omega
    have hsub : Aa (some (⟨b, 0, none⟩ : Addr)) sc kp.length 3 = some ⟨b, kp.length * 3, none⟩ := by
      unfold Aa
      rw [if_neg hne, Option.map_some, iC, Nat.zero_add]
    rw [hsub]
    refine Xv hrW (by simp only [List.length_append, fl3]; omega) fun W2 r2 g2 => ?_
    have hrl : (aJ [Value.int .i64 0, Value.int .i64 0, Value.int .i64 0] (xs.length - kp.length)).length = (xs.length - kp.length) * 3 := by rw [vF]; rfl
    have hspl : spl (kp.flatMap eT ++ (mid ++ pad)) (kp.length * 3) (aJ [Value.int .i64 0, Value.int .i64 0, Value.int .i64 0] (xs.length - kp.length)) = kp.flatMap eT ++ (aJ [Value.int .i64 0, Value.int .i64 0, Value.int .i64 0] (xs.length - kp.length) ++ pad) := by
      have := aac (A := kp.flatMap eT) (B := mid) (C := pad) (vs := aJ [Value.int .i64 0, Value.int .i64 0, Value.int .i64 0] (xs.length - kp.length)) (by omega)
      rw [fl3] at this
      exact this
    rw [hspl] at r2
    refine ⟨by (try simp only); omega, by (try simp only); omega, by (try simp only); omega, ?_⟩
    have hsub0 : Aa (some (⟨b, 0, none⟩ : Addr)) sc 0 3 = some ⟨b, 0, none⟩ := by
      unfold Aa
      split <;> simp [Addr.add]
    simp only [Int.toNat_natCast, Int.toNat_zero, Nat.sub_zero, hsub0]
    refine ⟨⟨by rw [hkp], .inr ⟨b, aJ [Value.int .i64 0, Value.int .i64 0, Value.int .i64 0] (xs.length - kp.length) ++ pad, rfl, ?_, ?_⟩⟩, hat (hf.trans g2 fun _ _ e => e), fun c hc => ?_⟩
    · rw [hkp, List.length_append, hrl]; simp only; omega
    · rw [hkp]; exact r2
    · obtain ⟨o, e⟩ := hc
      exact ⟨o, e⟩
theorem abb {w : World} {s : ah} {xs : List Tm} (hs : iM 3 eT w s xs) (hl : xs.length <= 2 ^ 30) (hne : xs ≠ []) :
    bC s (Value.func (.func CU) #[] #[]) w fun r0 r1 r2 w' => Ext w w' ∧ ∃ t ∈ xs, r1 = (t.a : Int) ∧ ∀ u ∈ xs, t.a <= u.a := by
  apply kY
  have hlen := hs.len
  have hpos : 0 < xs.length := List.length_pos_iff.2 hne
  refine aN fun p4 w1 r1 e1 z1 f1 => ?_
  rw [decide_eq_false (by omega), cond_false]
  have hx0 := List.getElem?_eq_getElem hpos
  generalize xs[0] = x0 at hx0
  refine OA (k := 0) (hs.ext f1) hx0 fun a c0 c1 c2 => ?_
  simp -zeta only [sx, c0, c1, c2]
  refine yG rfl rfl fun pm w2 r2 e2 z2 f2 => ?_
  have x2 := f1.trans f2
  have z1' := f1.size
  have z2' := f2.size
  refine aG (fun st W => ∃ j : Nat, j <= xs.length ∧ st.1 = (j : Int) ∧ aF w2 W (· = pm) ∧ ∃ t ∈ xs, Row W pm (eT t) ∧ ∀ u ∈ xs.take j, t.a <= u.a) (fun st _ => (s.len - st.1).toNat)
    ⟨1, by omega, rfl, aF.refl _ _, x0, List.mem_of_getElem? hx0, r2, fun u hu => ?_⟩ ?_
  · obtain ⟨k, hk, he⟩ := List.mem_take_iff_getElem.1 hu
    have : k = 0 := by omega
    subst this
    rw [List.getElem?_eq_getElem hpos] at hx0
    simp only [Option.some.injEq] at hx0
    rw [<- he, hx0]
    exact Nat.le_refl _
  rintro ⟨i, ⟨⟩⟩ W ⟨j, hj, hi, hf, t, ht, rt, hmin⟩ next hnext
  simp only at hi
  subst hi
  have xW : Ext w W := x2.new hf fun y hy e => by omega
  by_cases hlt : (j : Int) < (s.len : Int)
  · rw [decide_eq_true hlt, cond_true]
    intro J
    have hx := List.getElem?_eq_getElem (show j < xs.length by omega)
    generalize xs[j] = x at hx
    have htk : xs.take (j + 1) = xs.take j ++ [x] := by rw [List.take_add_one, hx]; rfl
    have xWd := xW.trans (Ext.drew W)
    refine OA (hs.ext xW) hx fun a c0 c1 c2 => ?_
    have rtd := rt.drew
    have d0 : W.drew.cell? (a.add 0) = _ := c0
    have d1 : W.drew.cell? (a.add 1) = _ := c1
    have d2 : W.drew.cell? (a.add 2) = _ := c2
    simp -zeta only [sx, d0, d1, d2, rtd.cell]
    refine ji (by kernel_rfl) ?_
    have call : uI x.id x.a x.tn t.id t.a t.tn W.drew fun r W' => r = PI (x.a : Int) (t.a : Int) ∧ Ext W.drew W' := by
      apply Aw
      refine aN fun p W1 q1 _ _ g1 => aN fun p' W2 q2 _ _ g2 => ?_
      have q1 := q1.ext g2
      simp only [sx, q1.cell, q2.cell]
      refine wB (Ll _ _ _) ?_
      rintro r W3 ⟨rfl, hw⟩
      subst hw
      exact ⟨rfl, g1.trans g2⟩
    refine Calls.mono call ?_
    rintro e W3 ⟨r, he, rfl, g3⟩
    refine ⟨_, he, _, rfl, ?_⟩
    have hf3 := (hf.ext (Ext.drew W)).ext g3
    have xW3 := xWd.trans g3
    have rt3 := rtd.ext g3
    by_cases hc : x.a < t.a
    · have hc1 : PI (x.a : Int) (t.a : Int) < 0 := by unfold PI; rw [if_pos (by omega)]; omega
      rw [decide_eq_true hc1, cond_true]
      refine OA (hs.ext xW3) hx fun a c0 c1 c2 => ?_
      simp -zeta only [c0, c1, c2, au, aC]
      refine aQ rt3 rfl rfl fun W4 r4 g4 z4 => ?_
      simp only [J]
      rw [wrap_i64 (by omega) (by omega)]
      refine hnext _ _ ⟨j + 1, by omega, by simp, hf3.trans (g4 (· = pm) rfl) fun _ _ e => e, x, List.mem_of_getElem? hx, r4, fun u hu => ?_⟩ (by simp only; omega)
      rw [htk, List.mem_append, List.mem_singleton] at hu
      rcases hu with hu | rfl
      · have := hmin u hu; omega
      · omega
    · have hc1 : ¬ PI (x.a : Int) (t.a : Int) < 0 := by
        unfold PI; rw [if_neg (by omega)]; split <;> omega
      rw [decide_eq_false hc1, cond_false]
      simp only [J]
      rw [wrap_i64 (by omega) (by omega)]
      refine hnext _ _ ⟨j + 1, by omega, by simp, hf3, t, ht, rt3, fun u hu => ?_⟩ (by simp only; omega)
      rw [htk, List.mem_append, List.mem_singleton] at hu
      rcases hu with hu | rfl
      · exact hmin u hu
      · omega
  · rw [decide_eq_false hlt, cond_false]
    rw [List.take_of_length_le (by omega)] at hmin
    simp only [sx, rt.cell]
    have r1W : Row W p4 _ := (r1.ext f2).fr hf (by omega)
    refine aQ r1W rfl rfl fun W4 r4 g4 z4 => ?_
    simp only [List.getElem?_cons_zero, List.getElem?_cons_succ, au, aC, r4.cell]
    exact ⟨xW.new (g4 (· = p4) rfl) fun y hy e => by omega, t, ht, by trivial, hmin⟩
end Go.Proofs.WN
end
section
namespace Go.Proofs.WN
open Gp Gp.Wh
set_option maxRecDepth 100000
theorem ZR {a b : Nat} (ha : a < 2 ^ 63) (hb : b < 2 ^ 63) : Uz .i64 (a : Int) (b : Int) = ((a ^^^ b : Nat) : Int) := by
  unfold Uz
  have h1 : (BitVec.ofInt (IntKind.bits .i64) (a : Int)).toNat = a := by rw [Ad, BitVec.toNat_ofInt]; omega
  have h2 : (BitVec.ofInt (IntKind.bits .i64) (b : Int)).toNat = b := by rw [Ad, BitVec.toNat_ofInt]; omega
  rw [BitVec.toNat_xor, h1, h2]
  have : a ^^^ b < 2 ^ 63 := Nat.xor_lt_two_pow ha hb
  rw [wrap_i64 (by omega) (by omega)]
theorem p64 (n : Nat) : 2 ^ (6 * n) = 64 ^ n := by rw [Nat.pow_mul]
theorem VF (a b n : Nat) : (a ^^^ b) / 64 ^ n = (a / 64 ^ n) ^^^ (b / 64 ^ n) := by
  rw [<- p64, <- Nat.shiftRight_eq_div_pow, <- Nat.shiftRight_eq_div_pow, <- Nat.shiftRight_eq_div_pow, Nat.shiftRight_xor_distrib]
theorem xor_zero {a b : Nat} : a ^^^ b = 0 ↔ a = b := by
  constructor
  · intro h
    refine Nat.eq_of_testBit_eq fun i => ?_
    have := congrArg (fun x => Nat.testBit x i) h
    simp only [Nat.testBit_xor, Nat.zero_testBit] at this
    revert this
    cases a.testBit i <;> cases b.testBit i <;> simp
  · rintro rfl; exact Nat.xor_self a
theorem Tv {now a : Nat} (h1 : now <= 2 ^ 40) (h2 : a <= 2 ^ 40) (w : World) : lJ now a w fun r w' => (∃ n : Nat, r = (n : Int) ∧ Lv now a n) ∧ w' = w := by
  apply NG
  rw [ZR (by omega) (by omega)]
  have hx : now ^^^ a < 2 ^ 41 := Nat.xor_lt_two_pow (by omega) (by omega)
  refine aG (fun st W => W = w ∧ ∃ n : Nat, st.1 = (n : Int) ∧ st.2.1 = (((now ^^^ a) / 64 ^ n : Nat) : Int) ∧ n <= 7 ∧ (n = 0 ∨ now / 64 ^ n ≠ a / 64 ^ n)) (fun st _ => st.2.1.toNat) ⟨rfl, 0, rfl, by simp, by omega, .inl rfl⟩ ?_
  rintro ⟨i, d, ⟨⟩⟩ W ⟨rfl, n, hi, hd, hn, hne⟩ next hnext
  simp only at hi hd
  subst hi hd
  generalize hD : (now ^^^ a) / 64 ^ n = D
  have e1 : (now ^^^ a) / 64 ^ (n + 1) = D / 64 := by rw [rG, hD]
  by_cases hge : (D : Int) >= 64
  · rw [decide_eq_true hge, cond_true]
    refine ⟨by omega, ?_⟩
    have hD7 : n < 7 := by
      refine Classical.byContradiction fun h => ?_
      have : (now ^^^ a) / 64 ^ n = 0 := by
        refine Nat.div_eq_of_lt (Nat.lt_of_lt_of_le hx ?_)
        calc 2 ^ 41 <= 64 ^ 7 := by decide
          _ <= 64 ^ n := Nat.pow_le_pow_right (by omega) (by omega)
      omega
    rw [wrap_i64 (by omega) (by omega), show (6 : Int) = ((6 : Nat) : Int) from rfl, zG (by omega)]
    refine hnext _ _ ⟨rfl, n + 1, by simp, by rw [e1], by omega, .inr fun he => ?_⟩ (by simp only [Int.toNat_natCast]; omega)
    rw [VF, he, Nat.xor_self] at e1
    omega
  · rw [decide_eq_false hge, cond_false]
    refine ⟨⟨n, rfl, ?_, hne⟩, rfl⟩
    have : D / 64 = 0 := Nat.div_eq_of_lt (by omega)
    rw [this, VF, xor_zero] at e1
    exact e1
def JR (k : Int) : Value := .int .i64 k
def YN (s : ah) : Value := .slice s.a s.len s.cap
def evT (t : Tm) : Value := .agg ⟨eT t⟩
theorem eqW (a b : Int) : xQ Tryz.prog 16 3 (JR a) (JR b) = some (decide (a = b)) := by
  have h : xQ Tryz.prog 16 3 (.int .i64 a) (.int .i64 b) = some (a == b) := by kernel_rfl
  rw [JR, JR, h]
  congr 1
theorem Vb (a : Int) : iJ Tryz.prog 3 (JR a) = true := by
  have h : iJ Tryz.prog 3 (.int .i64 a) = true := by kernel_rfl
  exact h
theorem Dw {α β : Type} [DecidableEq α] {enc : α -> Value} {ev : β -> Value} {w : World} {r : Nat} {l : List (α × β)} {P : Program} {kt : TypeId} (h : kE enc ev w r l) (hE : ∀ a b : α, xQ P 16 kt (enc a) (enc b) = some (decide (a = b))) (a : α) (hk : iJ P kt (enc a) = true) {z : Value} {K : Value -> Bool -> Prop}
    (h0 : d_ l a = none -> K z false) (h1 : ∀ b, d_ l a = some b -> K (ev b) true) : xG P kt (some r) (enc a) z w K := by
  obtain ⟨es, c, g1, g2, _⟩ := h
  refine ⟨hk, .inr ⟨r, es, c, rfl, g1, ?_⟩⟩
  cases hl : d_ l a with
  | none =>
    cases l with
    | nil =>
      have : es.toList = [] := by simpa using g2
      exact ⟨none, by rw [this]; rfl, h0 hl⟩
    | cons x l' =>
      rcases Dz hE a x.2 es.toList _ 0 g2 with ⟨_, q2, _⟩ | ⟨j, v, e, q1, _⟩
      · exact ⟨_, q2, h0 hl⟩
      · rw [hl] at q1; cases q1
  | some b =>
    rcases Dz hE a b es.toList _ 0 g2 with ⟨q1, _, _⟩ | ⟨j, v, e, q1, q2, _⟩
    · rw [hl] at q1; cases q1
    · rw [hl] at q1; cases q1
      exact ⟨_, q2, h1 b hl⟩
theorem Nj {α β : Type} {enc : α -> Value} {ev : β -> Value} {w : World} {r : Nat} {l : List (α × β)} (h : kE enc ev w r l) {K : Int -> Prop} (hK : K (l.length : Int)) : IC w (some r) K := by
  obtain ⟨es, c, h1, h2, _⟩ := h
  refine ⟨es, c, h1, ?_⟩
  have : es.size = l.length := by
    have := congrArg List.length h2
    simpa using this
  rw [this]; exact hK
abbrev PL := List (Int × Tm)
def atS (ss : List ah) (b : Nat) : Prop := ∃ (i : Nat) (s : ah), ss[i]? = some s ∧ ah.at s b
def jl (d m : Nat) (ss : List ah) (b : Nat) : Prop := b = d ∨ b = m ∨ atS ss b
structure WM (w : World) (d m : Nat) (ss : List ah) (l : PL) (now : Nat) (tn most : Int) (F : Fs) : Prop where
  hd : Row w d (ss.map YN ++ [.map (some m), .int .i64 (now : Int), .int .i64 tn, .int .i64 most])
  len : ss.length = 448
  mp : kE JR evT w m l
  nd : (l.map (·.1)).Nodup
  buf : ∀ n k, n < 7 -> k < 64 -> ∃ s, ss[n * 64 + k]? = some s ∧ dn 3 eT w s (F n k)
  ap : ∀ (i j : Nat) s s' b, i ≠ j -> ss[i]? = some s -> ss[j]? = some s' -> ah.at s b -> ¬ ah.at s' b
  ne : ∀ b, atS ss b -> b ≠ d ∧ b ≠ m
  dm : d ≠ m
  sm : ∀ n k, n < 7 -> k < 64 -> (F n k).length <= 2 ^ 21
section
variable {w w' : World} {d m : Nat} {ss : List ah} {l : PL} {now : Nat} {tn most : Int} {F : Fs}
theorem WM.fr {S : Nat -> Prop} (h : WM w d m ss l now tn most F) (hf : aF w w' S) (hs : ∀ b, jl d m ss b -> ¬ S b) : WM w' d m ss l now tn most F :=
  ⟨h.hd.fr hf (hs _ (.inl rfl)), h.len, h.mp.fr hf (hs _ (.inr (.inl rfl))), h.nd, fun n k hn hk => by
    obtain ⟨s, h1, h2⟩ := h.buf n k hn hk
    exact ⟨s, h1, h2.fr hf fun b hb => hs b (.inr (.inr ⟨_, s, h1, hb⟩))⟩, h.ap, h.ne, h.dm, h.sm⟩
theorem WM.ext (h : WM w d m ss l now tn most F) (hf : Ext w w') : WM w' d m ss l now tn most F := h.fr (hf fun _ => False) (fun _ _ => by simp)
theorem WM.Zx (h : WM w d m ss l now tn most F) {b : Nat} (hb : atS ss b) : ∃ n k s, n < 7 ∧ k < 64 ∧ ss[n * 64 + k]? = some s ∧ ah.at s b ∧ dn 3 eT w s (F n k) := by
  obtain ⟨i, s, hi, hs⟩ := hb
  have hlt := (List.getElem?_eq_some_iff.1 hi).1
  have hl := h.len
  obtain ⟨s', h1, h2⟩ := h.buf (i / 64) (i % 64) (by omega) (by omega)
  have e : i / 64 * 64 + i % 64 = i := by omega
  rw [e, hi] at h1
  cases h1
  exact ⟨i / 64, i % 64, s, by omega, by omega, by rw [e]; exact hi, hs, h2⟩
theorem WM.lt (h : WM w d m ss l now tn most F) {b : Nat} (hb : jl d m ss b) : b < w.heap.size := by
  rcases hb with rfl | rfl | hb
  · exact h.hd.lt
  · exact h.mp.lt
  · obtain ⟨n, k, s, _, _, _, h1, h2⟩ := h.Zx hb
    exact h2.lt h1
theorem WM.cell (h : WM w d m ss l now tn most F) (j : Nat) : w.cell? ⟨d, j, none⟩ = (ss.map YN ++ [.map (some m), .int .i64 (now : Int), .int .i64 tn, .int .i64 most])[j]? := by rw [h.hd.cell]
theorem WM.Qw (h : WM w d m ss l now tn most F) : w.cell? ⟨d, 448, none⟩ = some (.map (some m)) := by
  rw [h.hd.cell, List.getElem?_append_right (by rw [List.length_map, h.len]; omega), List.length_map, h.len]; rfl
theorem WM.QO (h : WM w d m ss l now tn most F) : w.cell? ⟨d, 449, none⟩ = some (.int .i64 (now : Int)) := by
  rw [h.hd.cell, List.getElem?_append_right (by rw [List.length_map, h.len]; omega), List.length_map, h.len]; rfl
theorem WM.abn (h : WM w d m ss l now tn most F) : w.cell? ⟨d, 450, none⟩ = some (.int .i64 tn) := by
  rw [h.hd.cell, List.getElem?_append_right (by rw [List.length_map, h.len]; omega), List.length_map, h.len]; rfl
theorem WM.acz (h : WM w d m ss l now tn most F) : w.cell? ⟨d, 451, none⟩ = some (.int .i64 most) := by
  rw [h.hd.cell, List.getElem?_append_right (by rw [List.length_map, h.len]; omega), List.length_map, h.len]; rfl
theorem WM.cs (h : WM w d m ss l now tn most F) {i : Nat} {s : ah} (hi : ss[i]? = some s) : w.cell? ⟨d, i, none⟩ = some (.slice s.a s.len s.cap) := by
  have hlt := (List.getElem?_eq_some_iff.1 hi).1
  rw [h.hd.cell, List.getElem?_append_left (by rw [List.length_map]; exact hlt), List.getElem?_map, hi]; rfl
theorem WM.ZN (h : WM w d m ss l now tn most F) {n k : Nat} (hn : n < 7) (hk : k < 64) {s : ah} (hs : ss[n * 64 + k]? = some s) {w1 : World} {s' : ah} {L : List Tm} {S : Nat -> Prop} (hf : aF w w1 S) (hS : ∀ b, jl d m ss b -> S b -> ah.at s b)
    (hb : dn 3 eT w1 s' L) (hnw : ∀ b, ah.at s' b -> ah.at s b ∨ w.heap.size <= b) (hL : L.length <= 2 ^ 21) {K : World -> Prop}
    (hK : ∀ w2, WM w2 d m (ss.set (n * 64 + k) s') l now tn most (qQ F n k L) -> aF w1 w2 (· = d) -> w2.heap.size = w1.heap.size -> K w2) : St w1 ⟨d, n * 64 + k, none⟩ (.slice s'.a s'.len s'.cap) K := by
  have hl := h.len
  have hix : n * 64 + k < ss.length := by omega
  have atd : ¬ ah.at s d := fun e => (h.ne d ⟨_, s, hs, e⟩).1 rfl
  have atm : ¬ ah.at s m := fun e => (h.ne m ⟨_, s, hs, e⟩).2 rfl
  have hd1 := h.hd.fr hf fun e => atd (hS d (.inl rfl) e)
  have hset : ∀ j, (ss.set (n * 64 + k) s')[j]? = if n * 64 + k = j then some s' else ss[j]? := fun j => by
    rw [List.getElem?_set]
    split
    · first | rfl | rw [if_pos hix]
    · rfl
  refine aZ hd1 rfl (by rw [List.length_append, List.length_map]; omega) fun w2 r2 f2 z2 => ?_
  have f2d := f2 (· = d) rfl
  rw [List.set_append_left _ _ (by rw [List.length_map]; exact hix), <- (show (ss.set (n * 64 + k) s').map YN = (ss.map YN).set (n * 64 + k) (Value.slice s'.a s'.len s'.cap) from List.map_set)] at r2
  have s'd : ∀ b, ah.at s' b -> b ≠ d ∧ b ≠ m := fun b hb' => by
    rcases hnw b hb' with e | e
    · exact h.ne b ⟨_, s, hs, e⟩
    · have q1 := h.lt (.inl rfl : jl d m ss d)
      have q2 := h.lt (.inr (.inl rfl) : jl d m ss m)
      exact ⟨by omega, by omega⟩
  have s'o : ∀ b j u, j ≠ n * 64 + k -> ss[j]? = some u -> ah.at u b -> ¬ ah.at s' b := fun b j u hj hu hub hb' => by
    rcases hnw b hb' with e | e
    · exact h.ap j _ u s b hj hu hs hub e
    · have := h.lt (.inr (.inr ⟨j, u, hu, hub⟩) : jl d m ss b); omega
  refine hK w2 ⟨r2, by rw [List.length_set]; exact hl, (h.mp.fr hf fun e => atm (hS m (.inr (.inl rfl)) e)).fr f2d (fun e => h.dm e.symm), h.nd, fun n' k' hn' hk' => ?_, fun i j u u' b hij hi hj hu hu' => ?_, fun b hb' => ?_, h.dm, fun n' k' hn' hk' => ?_⟩ f2d z2
  · rw [hset]
    unfold qQ
    by_cases e : n' = n ∧ k' = k
    · rw [if_pos e, if_pos (by rw [e.1, e.2])]
      exact ⟨s', rfl, hb.fr f2d fun b hb' => (s'd b hb').1⟩
    · rw [if_neg e, if_neg (by omega)]
      obtain ⟨u, h1, h2⟩ := h.buf n' k' hn' hk'
      refine ⟨u, h1, (h2.fr hf fun b hub hSb => ?_).fr f2d fun b hub => (h.ne b ⟨_, u, h1, hub⟩).1⟩
      exact h.ap _ _ u s b (by omega) h1 hs hub (hS b (.inr (.inr ⟨_, u, h1, hub⟩)) hSb)
  · rw [hset] at hi hj
    split at hi
    · rename_i e1
      split at hj
      · omega
      · rename_i e2
        cases hi
        exact s'o b j u' (by omega) hj hu' hu
    · rename_i e1
      split at hj
      · cases hj; exact s'o b i u (by omega) hi hu hu'
      · exact h.ap i j u u' b hij hi hj hu hu'
  · obtain ⟨j, u, hj, hu⟩ := hb'
    rw [hset] at hj
    split at hj
    · cases hj; exact s'd b hu
    · exact h.ne b ⟨j, u, hj, hu⟩
  · unfold qQ
    split
    · exact hL
    · exact h.sm n' k' hn' hk'
theorem WM.setH (h : WM w d m ss l now tn most F) {now' : Nat} {tn' : Int} {j : Nat} {v : Value} (hv : bK v = true) (hj : (ss.map YN ++ [Value.map (some m), Value.int .i64 (now : Int), Value.int .i64 tn, Value.int .i64 most]).set j v = ss.map YN ++ [Value.map (some m), Value.int .i64 (now' : Int), Value.int .i64 tn', Value.int .i64 most]) (hj2 : j < 452) {K : World -> Prop}
    (hK : ∀ w2, WM w2 d m ss l now' tn' most F -> aF w w2 (· = d) -> w2.heap.size = w.heap.size -> K w2) : St w ⟨d, j, none⟩ v K := by
  refine aZ h.hd hv (by rw [List.length_append, List.length_map, h.len]; exact hj2) fun w2 r2 f2 z2 => ?_
  rw [hj] at r2
  have f2d := f2 (· = d) rfl
  exact hK w2 ⟨r2, h.len, h.mp.fr f2d (fun e => h.dm e.symm), h.nd, fun n k hn hk => by
    obtain ⟨s, h1, h2⟩ := h.buf n k hn hk
    exact ⟨s, h1, h2.fr f2d fun b hb => (h.ne b ⟨_, s, h1, hb⟩).1⟩, h.ap, h.ne, h.dm, h.sm⟩ f2d z2
theorem WM.aaV (h : WM w d m ss l now tn most F) (now' : Nat) {K : World -> Prop}
    (hK : ∀ w2, WM w2 d m ss l now' tn most F -> aF w w2 (· = d) -> w2.heap.size = w.heap.size -> K w2) : St w ⟨d, 449, none⟩ (.int .i64 (now' : Int)) K :=
  h.setH rfl (by rw [List.set_append_right _ _ (by rw [List.length_map, h.len]; omega), List.length_map, h.len]; rfl) (by omega) hK
theorem WM.abL (h : WM w d m ss l now tn most F) (tn' : Int) {K : World -> Prop}
    (hK : ∀ w2, WM w2 d m ss l now tn' most F -> aF w w2 (· = d) -> w2.heap.size = w.heap.size -> K w2) : St w ⟨d, 450, none⟩ (.int .i64 tn') K :=
  h.setH rfl (by rw [List.set_append_right _ _ (by rw [List.length_map, h.len]; omega), List.length_map, h.len]; rfl) (by omega) hK
theorem WM.acw (h : WM w d m ss l now tn most F) (t : Tm) {K : World -> Prop}
    (hK : ∀ w2, WM w2 d m ss (BG l t.id t) now tn most F -> aF w w2 (· = m) -> w2.heap.size = w.heap.size -> K w2) : tH Tryz.prog 3 (some m) (.int .i64 t.id) (.agg ⟨eT t⟩) w K :=
  H8 (enc := JR) (ev := evT) h.mp eqW t.id t (Vb _) fun w2 g2 f2 z2 => hK w2 ⟨h.hd.fr f2 h.dm, h.len, g2, Cj h.nd _ _, fun n k hn hk => by
    obtain ⟨s, h1, h2⟩ := h.buf n k hn hk
    exact ⟨s, h1, h2.fr f2 fun b hb => (h.ne b ⟨_, s, h1, hb⟩).2⟩, h.ap, h.ne, h.dm, h.sm⟩ f2 z2
theorem WM.ab_ (h : WM w d m ss l now tn most F) (id : Int) {K : World -> Prop}
    (hK : ∀ w2, WM w2 d m ss (qw l id) now tn most F -> aF w w2 (· = m) -> w2.heap.size = w.heap.size -> K w2) : zV Tryz.prog 3 (some m) (.int .i64 id) w K :=
  Gw (enc := JR) (ev := evT) h.mp eqW id (Vb _) fun w2 g2 f2 z2 => hK w2 ⟨h.hd.fr f2 h.dm, h.len, g2, h.nd.sublist ((F9 l id).map _), fun n k hn hk => by
    obtain ⟨s, h1, h2⟩ := h.buf n k hn hk
    exact ⟨s, h1, h2.fr f2 fun b hb => (h.ne b ⟨_, s, h1, hb⟩).2⟩, h.ap, h.ne, h.dm, h.sm⟩ f2 z2
theorem zq (h : WM w d m ss l now tn most F) : dL (some ⟨d, 0, none⟩) w fun r w' => r = true ∧ w' = w := by
  apply BI
  simp only [sx, h.Qw, Bool.not_false]
  exact ⟨by trivial, by trivial⟩
theorem Zy (h : WM w d m ss l now tn most F) : fK (some ⟨d, 0, none⟩) w fun n w' => n = (l.length : Int) ∧ w' = w := by
  apply EO
  refine gZ (zq h) ?_
  rintro _ w2 ⟨rfl, hw⟩
  subst hw
  simp only [sx, Bool.not_true, h.Qw]
  exact Nj h.mp ⟨by trivial, by trivial⟩
theorem X0 {a n : Nat} (hn : n < 7) : sW .i64 (gG .i64 (a : Int) (IntKind.i64.wrap (6 * (n : Int)))) 63 = ((dg a n : Nat) : Int) ∧ IntKind.i64.wrap (6 * (n : Int)) = ((6 * n : Nat) : Int) := by
  have e : IntKind.i64.wrap (6 * (n : Int)) = ((6 * n : Nat) : Int) := by rw [wrap_i64 (by omega) (by omega)]; omega
  refine ⟨?_, e⟩
  rw [e, zG (by omega), p64]
  unfold dg
  have : ∀ x : Nat, sW .i64 (x : Int) 63 = ((x % 64 : Nat) : Int) := by
    intro x
    unfold sW
    have h1 : (BitVec.ofInt (IntKind.bits .i64) (x : Int)).toNat = x % 2 ^ 64 := by rw [Ad, BitVec.toNat_ofInt]; omega
    have h2 : (BitVec.ofInt (IntKind.bits .i64) 63).toNat = 2 ^ 6 - 1 := by rw [Ad, BitVec.toNat_ofInt]; rfl
    rw [BitVec.toNat_and, h1, h2, PO, wrap_i64 (by omega) (by omega)]
    omega
  exact this _
theorem KI (h : WM w d m ss l now tn most F) (h1 : now <= 2 ^ 40) {a : Nat} (h2 : a <= 2 ^ 40) : fD (some ⟨d, 0, none⟩) (a : Int) w fun r w' => (∃ n, n < 7 ∧ Lv now a n ∧ r = some ⟨d, n * 64 + dg a n, none⟩) ∧ Ext w w' := by
  apply DT
  simp only [sx, h.QO]
  refine BM (Tv h1 h2 w) ?_
  rintro r w1 ⟨⟨n, rfl, hl⟩, hw⟩
  subst hw
  have hn := hl.lt h1 h2
  obtain ⟨e1, e2⟩ := X0 (a := a) hn
  have hd := wG a n
  rw [e1, e2]
  simp only [Int.toNat_natCast, Nat.mul_one]
  exact ⟨by omega, by omega, by omega, by omega, by omega, ⟨n, hn, hl, rfl⟩, Ext.drew _⟩
theorem VH (h : WM w d m ss l now tn most F) (h1 : now <= 2 ^ 40) (t : Tm) (h2 : t.a <= 2 ^ 40) (hl : ∀ n k, n < 7 -> k < 64 -> (F n k).length < 2 ^ 21) :
    iq (some ⟨d, 0, none⟩) t.id (t.a : Int) t.tn w fun w' => aF w w' (jl d m ss) ∧ ∃ n ss', n < 7 ∧ Lv now t.a n ∧ WM w' d m ss' l now tn most (qQ F n (dg t.a n) (F n (dg t.a n) ++ [t])) ∧ ∀ b, jl d m ss' b -> jl d m ss b ∨ w.heap.size <= b := by
  apply Fp
  refine aN fun p w1 r1 e1 z1 f1 => ?_
  have hw1 := h.ext f1
  simp only [sx, r1.cell]
  refine o8 (KI hw1 h1 h2) ?_
  rintro _ w2 ⟨⟨n, hn, hlv, rfl⟩, f2⟩
  have x2 := f1.trans (f2.trans (Ext.drew w2))
  have h2w := h.ext x2
  have r2 := (r1.ext f2).drew
  have hk := wG t.a n
  obtain ⟨s, hs, hb⟩ := h2w.buf n (dg t.a n) hn hk
  have hll := hl n (dg t.a n) hn hk
  simp only [qV, List.getElem?_cons_zero, List.getElem?_cons_succ, au, aI, aC, h2w.cs hs, r2.cell]
  refine aN fun q w3 r3 e3 z3 f3 => ?_
  have h3 := h2w.ext f3
  simp only [true_and, h3.cs hs]
  have hel : iM 3 eT w3 ⟨some ⟨q, 0, none⟩, 1, 1⟩ [t] := (dn.row (xs := [t]) (f := eT) (n := 3) (by simpa using r3)).sl iE (by omega)
  refine iU iE (hb.ext f3) hel rfl (by omega) P9 (by simp only [List.length_singleton]; omega) (by simp only [List.length_singleton]; omega) fun s4 w4 b4 f4 n4 => ?_
  have x3 := x2.trans f3
  refine h3.ZN hn hk hs f4 (fun b _ hb => hb) b4 n4 (by rw [List.length_append, List.length_singleton]; omega) fun w5 h5 f5 z5 => ?_
  have hat : ∀ b, ah.at s b -> jl d m ss b := fun b hb => .inr (.inr ⟨_, s, hs, hb⟩)
  refine ⟨((x3 (jl d m ss)).trans (f4.mono hat) fun _ _ e => e).trans f5 fun b _ e => .inl e, n, _, hn, hlv, h5, fun b hb => ?_⟩
  rcases hb with hb | hb | ⟨j, u, hj, hu⟩
  · exact .inl (.inl hb)
  · exact .inl (.inr (.inl hb))
  · rw [List.getElem?_set] at hj
    split at hj
    · split at hj
      · cases hj
        rcases n4 b hu with e | e
        · exact .inl (hat b e)
        · exact .inr (Nat.le_trans x3.size e)
      · cases hj
    · exact .inl (.inr (.inr ⟨j, u, hj, hu⟩))
theorem SH (h : WM w d m ss l now tn most F) (h1 : now <= 2 ^ 40) (t : Tm) (h2 : t.a <= 2 ^ 40) :
    gK (some ⟨d, 0, none⟩) t.id (t.a : Int) t.tn w fun w' => aF w w' (jl d m ss) ∧ ∃ n ss', n < 7 ∧ Lv now t.a n ∧ WM w' d m ss' l now tn most (qQ F n (dg t.a n) ((F n (dg t.a n)).filter fun x => !(x.id == t.id))) ∧ ∀ b, jl d m ss' b -> jl d m ss b ∨ w.heap.size <= b := by
  apply DZ
  refine aN fun p w1 r1 e1 z1 f1 => ?_
  have hw1 := h.ext f1
  simp only [sx, r1.cell]
  refine o8 (KI hw1 h1 h2) ?_
  rintro _ w2 ⟨⟨n, hn, hlv, rfl⟩, f2⟩
  have x2 := f1.trans f2
  have h2w := h.ext x2
  have r2 := r1.ext f2
  have hk := wG t.a n
  obtain ⟨s, hs, hb⟩ := h2w.buf n (dg t.a n) hn hk
  have hll := h.sm n (dg t.a n) hn hk
  have hat : ∀ b, ah.at s b -> jl d m ss b := fun b hb => .inr (.inr ⟨_, s, hs, hb⟩)
  have hp : ∀ b, jl d m ss b -> b ≠ p := fun b hb => by have := h.lt hb; omega
  simp only [qV, au, aI, h2w.cs hs]
  have isId : FnT (Value.func (.func BU) #[] #[.pointer (some ⟨p, 0, none⟩)]) (fun W => Row W p (eT t)) (fun x => x.id == t.id) := by
    intro x W K hC hK
    refine ji (by kernel_rfl) ?_
    have : uD x.id x.a x.tn ⟨p, 0, none⟩ W fun r W' => r = (x.id == t.id) ∧ Ext W W' := by
      apply Ar
      refine aN fun q W1 q1 _ _ g1 => ?_
      simp only [sx, q1.cell, (hC.ext g1).cell]
      exact ⟨by trivial, g1⟩
    refine Calls.mono this ?_
    rintro e W' ⟨r, he, rfl, hf⟩
    exact ⟨_, he, hK W' hf⟩
  refine dB (P7 hb (by omega) isId fun W hf => r2.fr hf fun e => hp p (hat p e) rfl) ?_
  rintro s4 w4 ⟨b4, f4, n4⟩
  refine h2w.ZN hn hk hs f4 (fun b _ hb => hb) b4 (fun b hb => .inl (n4 b hb)) (Nat.le_trans (List.length_filter_le ..) hll) fun w5 h5 f5 z5 => ?_
  refine ⟨((x2 (jl d m ss)).trans (f4.mono hat) fun _ _ e => e).trans f5 fun b _ e => .inl e, n, _, hn, hlv, h5, fun b hb => ?_⟩
  rcases hb with hb | hb | ⟨j, u, hj, hu⟩
  · exact .inl (.inl hb)
  · exact .inl (.inr (.inl hb))
  · rw [List.getElem?_set] at hj
    split at hj
    · split at hj
      · cases hj
        exact .inl (hat b (n4 b hu))
      · cases hj
    · exact .inl (.inr (.inr ⟨j, u, hj, hu⟩))
end
end Go.Proofs.WN
end
