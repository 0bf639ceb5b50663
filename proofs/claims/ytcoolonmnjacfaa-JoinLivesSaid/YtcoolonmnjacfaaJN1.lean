import Derived.Test.YtcoolonmnjacfaaJH
import Derived.Test.YtcoolonmnjacfaaJoinPure2
import Derived.Test.YtcoolonmnjacfaaRngM
/- A table of buffers in memory. -/
namespace Go.Proofs
open Gp Gp.Hol Gp.Jn
set_option maxRecDepth 100000

abbrev encKy (k : ByteArray) : Value := .string k
/-- Where a buffer lies. -/
structure BR where
  b : Nat
  h : Nat
  s : SliceV
  xs : List P3
  l : List Pc
abbrev JE := BR × Bf
def evBf (e : JE) : Value := .pointer (some ⟨e.1.b, 0, none⟩)

def fpR (r : BR) (z : Nat) : Prop := z = r.b ∨ z = r.h ∨ SliceV.at r.s z ∨ ∃ x ∈ r.xs, ∃ a : Addr, x.2.2.1.a = some a ∧ 0 < x.2.2.1.len ∧ a.block = z

structure BAt (w : World) (e : JE) : Prop where
  row : Row w e.1.b [.pointer (some ⟨e.1.h, 0, none⟩), .int .i64 e.2.since, .string e.2.head, .bool e.2.begun]
  H : HAt w e.1.h e.1.s e.1.xs e.1.l (lastE e.1.l)
  G : Gp.Hol.Good e.1.l
  srt : e.1.l.Pairwise le
  perm : e.1.l.Perm e.2.L
  ne : e.1.b ≠ e.1.h ∧ (¬ SliceV.at e.1.s e.1.b) ∧ FreeP e.1.xs (· = e.1.b)

theorem BAt.fr {w w' : World} {e : JE} {S : Nat → Prop} (h : BAt w e) (hf : Fr8 w w' S) (hs : ∀ z, fpR e.1 z → ¬ S z) : BAt w' e :=
  ⟨h.row.fr hf (hs _ (.inl rfl)), h.H.fr hf (hs _ (.inr (.inl rfl))) (fun b hb => hs b (.inr (.inr (.inl hb)))) (fun x hx a ha h0 => hs _ (.inr (.inr (.inr ⟨x, hx, a, ha, h0, rfl⟩)))), h.G, h.srt, h.perm, h.ne⟩
theorem BAt.ext {w w' : World} {e : JE} (h : BAt w e) (hf : Ext w w') : BAt w' e := h.fr (hf fun _ => False) fun _ _ => by simp
theorem BAt.lt {w : World} {e : JE} (h : BAt w e) {z : Nat} (hz : fpR e.1 z) : z < w.heap.size := by
  rcases hz with rfl | rfl | hz | ⟨x, hx, a, ha, h0, rfl⟩
  · exact h.row.lt
  · exact h.H.row.lt
  · exact h.H.buf.lt hz
  · obtain ⟨i, hi⟩ := List.getElem?_of_mem hx
    obtain ⟨p, hp, _, _, hs⟩ := h.H.pcs.get hi
    exact hs.lt ha (by rw [← hs.1]; exact h0)

/-- A table. -/
structure JAt (w : World) (t m : Nat) (many bytes wait : Int) (rs : List (Key × JE)) : Prop where
  row : Row w t [.map (some m), .int .i64 many, .int .i64 bytes, .int .i64 wait]
  map : MapF encKy evBf w m rs
  bufs : ∀ e ∈ rs, BAt w e.2
  dis : rs.Pairwise fun e e' => ∀ z, fpR e.2.1 z → ¬ fpR e'.2.1 z
  apart : ∀ e ∈ rs, ∀ z, fpR e.2.1 z → z ≠ t ∧ z ≠ m
  tm : t ≠ m
  nodup : (rs.map (·.1)).Nodup

def jtab (rs : List (Key × JE)) : JT := rs.map fun e => (e.1, e.2.2)

theorem JAt.fr {w w' : World} {t m : Nat} {many bytes wait : Int} {rs : List (Key × JE)} {S : Nat → Prop} (h : JAt w t m many bytes wait rs) (hf : Fr8 w w' S) (h1 : ¬ S t) (h2 : ¬ S m) (h3 : ∀ e ∈ rs, ∀ z, fpR e.2.1 z → ¬ S z) : JAt w' t m many bytes wait rs :=
  ⟨h.row.fr hf h1, h.map.fr hf h2, fun e he => (h.bufs e he).fr hf (h3 e he), h.dis, h.apart, h.tm, h.nodup⟩
theorem JAt.ext {w w' : World} {t m : Nat} {many bytes wait : Int} {rs : List (Key × JE)} (h : JAt w t m many bytes wait rs) (hf : Ext w w') : JAt w' t m many bytes wait rs := h.fr (hf fun _ => False) (by simp) (by simp) (fun _ _ _ _ => by simp)

theorem jsum_tab (rs : List (Key × JE)) (h : ∀ e ∈ rs, e.2.1.l.Perm e.2.2.L) : jsum (jtab rs) = (rs.map fun e => sum e.2.1.l).sum := by
  unfold jsum jtab
  rw [List.map_map]
  congr 1
  refine List.map_congr_left fun e he => ?_
  simp only [Function.comp]
  exact (sum_perm (h e he)).symm

theorem sum_erase {γ : Type} (f : γ → Int) : ∀ {L : List γ} {i : Nat} {x : γ}, L[i]? = some x → (L.map f).sum = f x + ((L.eraseIdx i).map f).sum
  | [], _, _, h => by simp at h
  | y :: L, 0, x, h => by
    rw [List.getElem?_cons_zero] at h
    cases h
    simp
  | y :: L, i + 1, x, h => by
    rw [List.getElem?_cons_succ] at h
    rw [List.eraseIdx_cons_succ, List.map_cons, List.map_cons, List.sum_cons, List.sum_cons, sum_erase f h]
    omega

section
variable {rs : List (Key × JE)} {k : Key} {e' : JE}

theorem mem_up (hn : (rs.map (·.1)).Nodup) {x : Key × JE} (h : x ∈ upF rs k e') : x = (k, e') ∨ (x ∈ rs ∧ x.1 ≠ k) := by
  induction rs with
  | nil => simp [upF] at h; exact .inl h
  | cons y l ih =>
    rw [List.map_cons, List.nodup_cons] at hn
    unfold upF at h
    by_cases hk : k = y.1
    · rw [if_pos hk] at h
      rcases List.mem_cons.1 h with h | h
      · exact .inl h
      · exact .inr ⟨List.mem_cons_of_mem _ h, fun e => hn.1 (by rw [← hk, ← e]; exact List.mem_map_of_mem h)⟩
    · rw [if_neg hk] at h
      rcases List.mem_cons.1 h with h | h
      · exact .inr ⟨by rw [h]; exact List.mem_cons_self .., by rw [h]; exact fun e => hk e.symm⟩
      · rcases ih hn.2 h with g | ⟨g1, g2⟩
        · exact .inl g
        · exact .inr ⟨List.mem_cons_of_mem _ g1, g2⟩

theorem mem_del (hn : (rs.map (·.1)).Nodup) {x : Key × JE} (h : x ∈ delF rs k) : x ∈ rs ∧ x.1 ≠ k := by
  induction rs with
  | nil => simp [delF] at h
  | cons y l ih =>
    rw [List.map_cons, List.nodup_cons] at hn
    unfold delF at h
    by_cases hk : k = y.1
    · rw [if_pos hk] at h
      exact ⟨List.mem_cons_of_mem _ h, fun e => hn.1 (by rw [← hk, ← e]; exact List.mem_map_of_mem h)⟩
    · rw [if_neg hk] at h
      rcases List.mem_cons.1 h with h | h
      · exact ⟨by rw [h]; exact List.mem_cons_self .., by rw [h]; exact fun e => hk e.symm⟩
      · obtain ⟨g1, g2⟩ := ih hn.2 h
        exact ⟨List.mem_cons_of_mem _ g1, g2⟩

theorem pw_up {R : Key × JE → Key × JE → Prop} (hn : (rs.map (·.1)).Nodup) (hp : rs.Pairwise R) (h1 : ∀ y ∈ rs, y.1 ≠ k → R y (k, e') ∧ R (k, e') y) : (upF rs k e').Pairwise R := by
  induction rs with
  | nil => simp [upF]
  | cons y l ih =>
    have hn' := hn
    rw [List.map_cons, List.nodup_cons] at hn
    obtain ⟨p1, p2⟩ := List.pairwise_cons.1 hp
    unfold upF
    by_cases hk : k = y.1
    · rw [if_pos hk]
      refine List.pairwise_cons.2 ⟨fun x hx => (h1 x (List.mem_cons_of_mem _ hx) fun e => hn.1 (by rw [← hk, ← e]; exact List.mem_map_of_mem hx)).2, p2⟩
    · rw [if_neg hk]
      refine List.pairwise_cons.2 ⟨fun x hx => ?_, ih hn.2 p2 fun z hz => h1 z (List.mem_cons_of_mem _ hz)⟩
      rcases mem_up hn.2 hx with rfl | ⟨g1, _⟩
      · exact (h1 y (List.mem_cons_self ..) fun e => hk e.symm).1
      · exact p1 x g1

theorem upF_cons {α β : Type} [DecidableEq α] (x : α × β) (l : List (α × β)) (a : α) (b : β) : upF (x :: l) a b = if a = x.1 then (a, b) :: l else x :: upF l a b := rfl
theorem delF_cons {α β : Type} [DecidableEq α] (x : α × β) (l : List (α × β)) (a : α) : delF (x :: l) a = if a = x.1 then l else x :: delF l a := rfl
theorem jtab_cons (x : Key × JE) (l : List (Key × JE)) : jtab (x :: l) = (x.1, x.2.2) :: jtab l := rfl
theorem jtab_up : jtab (upF rs k e') = upF (jtab rs) k e'.2 := by
  induction rs with
  | nil => rfl
  | cons y l ih =>
    rw [upF_cons, jtab_cons, upF_cons]
    by_cases hk : k = y.1
    · rw [if_pos hk, if_pos hk, jtab_cons]
    · rw [if_neg hk, if_neg hk, jtab_cons, ih]
theorem jtab_del : jtab (delF rs k) = delF (jtab rs) k := by
  induction rs with
  | nil => rfl
  | cons y l ih =>
    rw [delF_cons, jtab_cons, delF_cons]
    by_cases hk : k = y.1
    · rw [if_pos hk, if_pos hk]
    · rw [if_neg hk, if_neg hk, jtab_cons, ih]
theorem lkF_cons {α β : Type} [DecidableEq α] (x : α × β) (l : List (α × β)) (a : α) : lkF (x :: l) a = if a = x.1 then some x.2 else lkF l a := rfl
theorem lk_tab : lkF (jtab rs) k = (lkF rs k).map (·.2) := by
  induction rs with
  | nil => rfl
  | cons y l ih =>
    rw [jtab_cons, lkF_cons, lkF_cons]
    by_cases hk : k = y.1
    · rw [if_pos hk, if_pos hk]; rfl
    · rw [if_neg hk, if_neg hk, ih]
theorem lk_mem {e : JE} (h : lkF rs k = some e) : (k, e) ∈ rs := by
  induction rs with
  | nil => simp [lkF] at h
  | cons y l ih =>
    unfold lkF at h
    by_cases hk : k = y.1
    · rw [if_pos hk] at h
      cases h
      rw [hk]; exact List.mem_cons_self ..
    · rw [if_neg hk] at h
      exact List.mem_cons_of_mem _ (ih h)
theorem up_nodup' (hn : (rs.map (·.1)).Nodup) : ((upF rs k e').map (·.1)).Nodup := up_nodup hn k e'
theorem del_nodup (hn : (rs.map (·.1)).Nodup) : ((delF rs k).map (·.1)).Nodup := hn.sublist ((del_sub rs k).map _)
end

/-- A table with one buffer put. -/
theorem JAt.up {w w' : World} {t m : Nat} {many bytes wait : Int} {rs : List (Key × JE)} {k : Key} {e' : JE} (h : JAt w t m many bytes wait rs) (hr : Row w' t [.map (some m), .int .i64 many, .int .i64 bytes, .int .i64 wait]) (hm : MapF encKy evBf w' m (upF rs k e'))
    (hb : BAt w' e') (ho : ∀ e ∈ rs, e.1 ≠ k → BAt w' e.2) (hd : ∀ e ∈ rs, e.1 ≠ k → ∀ z, fpR e'.1 z → ¬ fpR e.2.1 z) (ha : ∀ z, fpR e'.1 z → z ≠ t ∧ z ≠ m) : JAt w' t m many bytes wait (upF rs k e') := by
  refine ⟨hr, hm, fun e he => ?_, pw_up h.nodup h.dis fun y hy hk => ⟨fun z h1 h2 => hd y hy hk z h2 h1, fun z h1 h2 => hd y hy hk z h1 h2⟩, fun e he => ?_, h.tm, up_nodup' h.nodup⟩
  · rcases mem_up h.nodup he with rfl | ⟨g1, g2⟩
    · exact hb
    · exact ho e g1 g2
  · rcases mem_up h.nodup he with rfl | ⟨g1, _⟩
    · exact ha
    · exact h.apart e g1

theorem JAt.del {w w' : World} {t m : Nat} {many bytes wait : Int} {rs : List (Key × JE)} {k : Key} (h : JAt w t m many bytes wait rs) (hr : Row w' t [.map (some m), .int .i64 many, .int .i64 bytes, .int .i64 wait]) (hm : MapF encKy evBf w' m (delF rs k))
    (ho : ∀ e ∈ rs, e.1 ≠ k → BAt w' e.2) : JAt w' t m many bytes wait (delF rs k) :=
  ⟨hr, hm, fun e he => by obtain ⟨g1, g2⟩ := mem_del h.nodup he; exact ho e g1 g2, h.dis.sublist (del_sub rs k), fun e he => h.apart e (mem_del h.nodup he).1, h.tm, del_nodup h.nodup⟩
end Go.Proofs
