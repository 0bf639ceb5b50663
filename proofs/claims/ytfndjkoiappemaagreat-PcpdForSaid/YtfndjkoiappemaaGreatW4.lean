import Derived.Test.YtfndjkoiappemaaGreatW3
import Derived.Lib.Overlaps
section
namespace Gp
open Go
structure dn {α : Type} (n : Nat) (f : α -> List Value) (w : World) (s : ah) (xs : List α) : Prop where
  len : s.len = xs.length
  mem : (s.a = none ∧ xs = [] ∧ s.cap = 0) ∨ ∃ b pad, s.a = some ⟨b, 0, none⟩ ∧ s.cap * n = xs.length * n + pad.length ∧ Row w b (xs.flatMap f ++ pad)
structure iM {α : Type} (n : Nat) (f : α -> List Value) (w : World) (s : ah) (xs : List α) : Prop where
  len : s.len = xs.length
  cells : oQ w s.a (s.len * n) (xs.flatMap f)
  cap : s.len <= s.cap
theorem vF {z : List Value} : ∀ k, (aJ z k).length = k * z.length
  | 0 => by simp [aJ]
  | k + 1 => by simp [aJ, vF k, Nat.add_mul]; omega
section
variable {α : Type} {n : Nat} {f : α -> List Value} {w w' : World} {s : ah} {xs : List α}
theorem dn.nil : dn n f w ⟨none, 0, 0⟩ [] := ⟨rfl, .inl ⟨rfl, rfl, rfl⟩⟩
theorem dn.lt (h : dn n f w s xs) {b : Nat} (hb : ah.at s b) : b < w.heap.size := by
  obtain ⟨o, hb⟩ := hb
  obtain ⟨_, ⟨ha, _, _⟩ | ⟨c, pad, ha, _, hr⟩⟩ := h
  · rw [ha] at hb; cases hb
  · rw [ha] at hb; cases hb; exact hr.lt
theorem dn.fr {S : Nat -> Prop} (h : dn n f w s xs) (hf : aF w w' S) (hs : ∀ b, ah.at s b -> ¬ S b) : dn n f w' s xs := by
  obtain ⟨hl, ⟨ha, h1, h2⟩ | ⟨b, pad, ha, hc, hr⟩⟩ := h
  · exact ⟨hl, .inl ⟨ha, h1, h2⟩⟩
  · exact ⟨hl, .inr ⟨b, pad, ha, hc, hr.fr hf (hs b ⟨0, ha⟩)⟩⟩
theorem dn.ext (h : dn n f w s xs) (hf : Ext w w') : dn n f w' s xs := h.fr (hf fun _ => False) (fun _ _ => by simp)
theorem dn.sl (hn : ∀ x, (f x).length = n) (h0 : 0 < n) (h : dn n f w s xs) : iM n f w s xs := by
  obtain ⟨hl, ⟨ha, rfl, hc⟩ | ⟨b, pad, ha, hc, hr⟩⟩ := h
  · exact ⟨hl, by rw [ha]; rfl, by rw [hl]; simp⟩
  · refine ⟨hl, ?_, ?_⟩
    · rw [ha]
      refine ⟨by rw [dA f n hn, hl], fun j hj => ?_⟩
      rw [iC, hr.cell, Nat.zero_add, List.getElem?_append_left hj]
    · rw [hl]
      exact Nat.le_of_mul_le_mul_right (by omega : xs.length * n <= s.cap * n) h0
theorem iM.nil : iM n f w ⟨none, 0, 0⟩ [] := ⟨rfl, rfl, Nat.le_refl _⟩
theorem iM.at_ (hn : ∀ x, (f x).length = n) (h0 : 0 < n) (h : iM n f w s xs) {i : Nat} {x : α} (hi : xs[i]? = some x) : ∃ a, s.a = some a ∧ ∀ j v, (f x)[j]? = some v -> w.cell? (a.add (i * n + j)) = some v := by
  have hlt := (List.getElem?_eq_some_iff.1 hi).1
  have hc := h.cells
  have hfl := dA f n hn xs
  have hm : (i + 1) * n <= xs.length * n := Nat.mul_le_mul_right _ hlt
  rw [Nat.add_mul] at hm
  cases hsa : s.a with
  | none =>
    rw [hsa] at hc
    have h0 : xs.flatMap f = [] := hc
    rw [h0] at hfl
    simp only [List.length_nil] at hfl
    omega
  | some a =>
    rw [hsa] at hc
    refine ⟨a, rfl, fun j v hj => ?_⟩
    have hjn : j < n := by have := (List.getElem?_eq_some_iff.1 hj).1; rw [hn] at this; exact this
    rw [hc.2 _ (by omega), flat_get f n hn xs i j hjn, hi]
    exact hj
theorem iM.fr {S : Nat -> Prop} (h : iM n f w s xs) (hf : aF w w' S) (hs : ∀ a, s.a = some a -> 0 < xs.length -> ¬ S a.block) : iM n f w' s xs := by
  refine ⟨h.len, ?_, h.cap⟩
  have hc := h.cells
  cases hsa : s.a with
  | none => rw [hsa] at hc; exact hc
  | some a =>
    rw [hsa] at hc
    refine ⟨hc.1, fun j hj => ?_⟩
    have := hc.2 j hj
    rw [List.getElem?_eq_getElem hj] at this ⊢
    refine xJ this hf (by
      rw [block_add]
      refine hs a hsa ?_
      cases xs with
      | nil => simp at hj
      | cons => simp)
theorem iM.ext (h : iM n f w s xs) (hf : Ext w w') : iM n f w' s xs := h.fr (hf fun _ => False) (by simp)
theorem Uj {e : TypeId} {bytes : Nat} {z : List Value} {ys : List α} {K : ah -> World -> Prop} (hn : ∀ x, (f x).length = n) (h : dn n f w s xs) (hz : z.length = n) (h0 : 0 < n) (h1 : ∀ x, ∀ v ∈ f x, bK v = true)
    (hl : (xs.length + ys.length) * bytes <= 2 ^ 46) (hl2 : xs.length + ys.length <= 2 ^ 46)
    (hK : ∀ s' w', dn n f w' s' (xs ++ ys) -> (aF w w' (ah.at s)) -> (∀ b, ah.at s' b -> ah.at s b ∨ w.heap.size <= b) -> K s' w') : OO e n bytes z s ys.length (ys.flatMap f) w K := by
  obtain ⟨hlen, hc⟩ := id h
  have hone : ∀ v ∈ ys.flatMap f, bK v = true := fun v hv => by
    obtain ⟨x, _, hx⟩ := List.mem_flatMap.1 hv
    exact h1 x v hx
  have hyl := dA f n hn ys
  have hxl := dA f n hn xs
  by_cases hcap : s.len + ys.length <= s.cap
  · rcases hc with ⟨ha, rfl, hc⟩ | ⟨b, pad, ha, hc, hr⟩
    · simp at hlen
      have : ys = [] := by cases ys with
        | nil => rfl
        | cons _ _ => simp at hcap; omega
      subst this
      refine .inl ⟨hcap, fun a ha' => (by rw [ha] at ha'; cases ha'), hone, ?_⟩
      rw [ha]
      exact hK _ _ ⟨by simp [hlen], .inl ⟨rfl, rfl, hc⟩⟩ (aF.refl _ _) (fun b ⟨o, hb⟩ => by cases hb)
    · have hmul : (s.len + ys.length) * n <= s.cap * n := Nat.mul_le_mul_right _ hcap
      rw [Nat.add_mul, hlen] at hmul
      obtain ⟨r2, f2⟩ := vG (ys.flatMap f) w (xs.flatMap f ++ pad) (s.len * n) 0 hr (by simp only [List.length_append]; rw [hyl, hxl, hlen]; omega)
      refine .inl ⟨hcap, fun a ha' => ?_, hone, ?_⟩
      · rw [ha] at ha'; cases ha'
        intro j hj
        rw [iC, iC, hr.cell, hr.frozen]
        refine ⟨?_, rfl⟩
        rw [List.getElem?_eq_getElem (by simp only [List.length_append]; rw [hxl, hlen]; omega)]
        rfl
      · rw [ha]
        simp only [iC, Nat.zero_add]
        have e1 : (xs.flatMap f ++ pad).take (s.len * n + 0) = xs.flatMap f := by rw [Nat.add_zero, hlen, <- hxl]; simp
        have e2 : ((xs.flatMap f ++ pad).drop (s.len * n + 0 + (ys.flatMap f).length)).length + ys.length * n = pad.length := by
          simp only [List.length_drop, List.length_append]
          rw [hxl, hyl, hlen]; omega
        rw [e1] at r2
        refine hK _ _ ⟨by simp [hlen], .inr ⟨b, (xs.flatMap f ++ pad).drop (s.len * n + 0 + (ys.flatMap f).length), rfl, ?_, ?_⟩⟩ (f2 _ ⟨0, ha⟩) (fun c ⟨o, hc'⟩ => .inl (by cases hc'; exact ⟨0, ha⟩))
        · show s.cap * n = _
          simp only [List.length_append, Nat.add_mul]; omega
        · rw [List.flatMap_append]; exact r2
  · have hb : (s.len + ys.length) * bytes <= 2 ^ 46 := by rw [hlen]; exact hl
    refine .inr ⟨by omega, hb, by omega, xs.flatMap f, ?_, fun c h1' h2' => ?_⟩
    · exact (h.sl hn h0).cells
    · refine hK _ _ ⟨by simp [hlen], .inr ⟨w.heap.size, aJ z (c - (s.len + ys.length)), rfl, ?_, by rw [List.flatMap_append]; exact Row.new w.drew _ e⟩⟩ ((aF.drew w _).trans (aF.alloc w.drew _ _) fun _ _ e => e) (fun b ⟨o, hb⟩ => .inr (by cases hb; exact Nat.le_refl _))
      rw [vF, hz]
      simp only [List.length_append]
      rw [hlen] at h1' ⊢
      rw [<- Nat.add_mul]
      congr 1
      omega
theorem iU {e : TypeId} {bytes : Nat} {z : List Value} {t : ah} {ys : List α} {K : ah -> World -> Prop} (hn : ∀ x, (f x).length = n) (h : dn n f w s xs) (ht : iM n f w t ys) (hz : z.length = n) (h0 : 0 < n) (h1 : ∀ x, ∀ v ∈ f x, bK v = true)
    (hl : (xs.length + ys.length) * bytes <= 2 ^ 46) (hl2 : xs.length + ys.length <= 2 ^ 46)
    (hK : ∀ s' w', dn n f w' s' (xs ++ ys) -> (aF w w' (ah.at s)) -> (∀ b, ah.at s' b -> ah.at s b ∨ w.heap.size <= b) -> K s' w') : qg e n bytes z s t w K := by
  refine ⟨ys.flatMap f, ht.cells, ?_⟩
  rw [ht.len]
  exact Uj hn h hz h0 h1 hl hl2 hK
theorem dn.row {b : Nat} (h : Row w b (xs.flatMap f)) : dn n f w ⟨some ⟨b, 0, none⟩, xs.length, xs.length⟩ xs :=
  ⟨rfl, .inr ⟨b, [], rfl, by simp, by simpa using h⟩⟩
theorem iM.cut (hn : ∀ x, (f x).length = n) (h : iM n f w s xs) {lo hi : Nat} (h1 : lo <= hi) (h2 : hi <= xs.length) (m : Nat) (hm : m = lo -> lo = hi) :
    iM n f w ⟨Aa s.a m lo n, hi - lo, s.cap - lo⟩ ((xs.take hi).drop lo) := by
  have hcap := h.cap
  have hlen := h.len
  refine ⟨by simp; omega, ?_, by simp only; omega⟩
  have hc := h.cells
  cases hsa : s.a with
  | none =>
    rw [hsa] at hc
    have h0 : xs.flatMap f = [] := hc
    have : ((xs.take hi).drop lo).flatMap f = [] := by
      rw [List.flatMap_eq_nil_iff] at h0 ⊢
      exact fun x hx => h0 x (List.mem_of_mem_take (List.mem_of_mem_drop hx))
    simp only [Aa]
    split <;> simpa [oQ] using this
  | some a =>
    rw [hsa] at hc
    by_cases hml : m = lo
    · have := hm hml
      subst this
      simp only [Aa, hml, if_true, Nat.sub_self, Nat.zero_mul]
      have : List.drop lo (List.take lo xs) = [] := by simp
      rw [this]
      exact ⟨rfl, fun j hj => by simp at hj⟩
    · simp only [Aa, hml, if_false, Option.map_some]
      have hfl : (((xs.take hi).drop lo).flatMap f).length = (hi - lo) * n := by
        rw [dA f n hn]; simp; congr 1; omega
      refine ⟨hfl, fun j hj => ?_⟩
      rw [hfl] at hj
      have e : lo * n + j < (xs.flatMap f).length := by
        rw [dA f n hn]
        have h3 : hi * n <= xs.length * n := Nat.mul_le_mul_right _ h2
        have h4 : (hi - lo) * n = hi * n - lo * n := Nat.sub_mul _ _ _
        have h5 : lo * n <= hi * n := Nat.mul_le_mul_right _ h1
        omega
      have ea : (a.add (lo * n)).add j = a.add (lo * n + j) := OG _ _ _
      rw [ea, hc.2 _ e]
      have hn0 : 0 < n := by
        cases n with
        | zero => simp at hj
        | succ n => omega
      have hj' : j = j / n * n + j % n := by rw [Nat.mul_comm]; exact (Nat.div_add_mod j n).symm
      have hjm := Nat.mod_lt j hn0
      have hjd : j / n < hi - lo := (Nat.div_lt_iff_lt_mul hn0).2 hj
      rw [hj', <- Nat.add_assoc, <- Nat.add_mul, flat_get f n hn _ _ _ hjm, flat_get f n hn _ _ _ hjm]
      rw [List.getElem?_drop, List.getElem?_take, if_pos (by omega)]
end
theorem ZO {α : Type} {n : Nat} {f : α -> List Value} {w : World} {s : ah} {xs : List α} {lo hi : Int} {K : ah -> Prop} (hn : ∀ x, (f x).length = n) (h : iM n f w s xs) (h0 : 0 <= lo) (h1 : lo <= hi) (h2 : hi <= xs.length)
    (hK : ∀ s', iM n f w s' ((xs.take hi.toNat).drop lo.toNat) -> K s') : Bj s n lo hi K := by
  have hl := h.len
  have hc := h.cap
  refine ⟨h0, h1, by omega, hK _ ?_⟩
  exact h.cut hn (by omega) (by omega) _ fun e => by omega
end Gp
end
section
namespace Gp
open Go
def uF {α : Type} (enc : α -> Value) (w : World) (r : Nat) (xs : List α) : Prop :=
  ∃ es clock, w.heap[r]? = some (.map es clock) ∧ es.toList.map (fun e => (e.key, e.val)) = xs.map fun x => (enc x, .bool true)
section
variable {α : Type} {enc : α -> Value} {w w' : World} {r : Nat} {xs : List α} {P : Program} {kt : TypeId}
theorem uF.fr {S : Nat -> Prop} (h : uF enc w r xs) (hf : aF w w' S) (hs : ¬ S r) : uF enc w' r xs := by
  obtain ⟨es, c, h1, h2⟩ := h
  exact ⟨es, c, by rw [hf.same r (Array.getElem?_eq_some_iff.1 h1).1 hs]; exact h1, h2⟩
theorem uF.ext (h : uF enc w r xs) (hf : Ext w w') : uF enc w' r xs := h.fr (hf fun _ => False) (by simp)
theorem uF.lt (h : uF enc w r xs) : r < w.heap.size := by
  obtain ⟨es, c, h1, h2⟩ := h
  exact (Array.getElem?_eq_some_iff.1 h1).1
theorem uF.new (w : World) (enc : α -> Value) : uF enc (w.alloc (.map #[] 0)) w.heap.size [] := ⟨#[], 0, World.alloc_heap_new w _, rfl⟩
variable [DecidableEq α]
theorem OC (hE : ∀ a b : α, xQ P 16 kt (enc a) (enc b) = some (decide (a = b))) (a : α) : ∀ (es : List MapEntry) (xs : List α) (i : Nat), es.map (fun e => (e.key, e.val)) = (xs.map fun x => (enc x, Value.bool true)) ->
    (a ∈ xs -> ∃ j, oq P kt (enc a) es i = some (some (j, .bool true))) ∧ (a ∉ xs -> oq P kt (enc a) es i = some none) := by
  intro es
  induction es with
  | nil =>
    intro xs i h
    cases xs with
    | nil => exact ⟨fun h => by simp at h, fun _ => rfl⟩
    | cons x xs => simp at h
  | cons e es ih =>
    intro xs i h
    cases xs with
    | nil => simp at h
    | cons x xs =>
      simp only [List.map_cons, List.cons.injEq, Prod.mk.injEq] at h
      obtain ⟨⟨h1, h2⟩, h3⟩ := h
      have hi := ih xs (i + 1) h3
      unfold oq
      rw [h1, hE]
      by_cases hx : a = x
      · subst hx
        simp only [decide_true]
        exact ⟨fun _ => ⟨i, by rw [h2]⟩, fun hn => by simp at hn⟩
      · simp only [hx, decide_false]
        exact ⟨fun hm => hi.1 (by simpa [hx] using hm), fun hn => hi.2 (by simp at hn; exact hn.2)⟩
theorem Hq (h : uF enc w r xs) (hE : ∀ a b : α, xQ P 16 kt (enc a) (enc b) = some (decide (a = b))) (a : α) (hk : iJ P kt (enc a) = true) {K : Bool -> Prop} (hK : K (decide (a ∈ xs))) : oL P kt .bool (some r) (enc a) (.bool false) w K := by
  obtain ⟨es, c, h1, h2⟩ := h
  refine ⟨hk, .inr ⟨r, es, c, rfl, h1, ?_⟩⟩
  have hf := OC hE a es.toList xs 0 h2
  by_cases hm : a ∈ xs
  · obtain ⟨j, hj⟩ := hf.1 hm
    exact ⟨_, hj, by simpa [hm, Kind.dec] using hK⟩
  · exact ⟨_, hf.2 hm, by simpa [hm, Kind.dec] using hK⟩
theorem HY (h : uF enc w r xs) (hE : ∀ a b : α, xQ P 16 kt (enc a) (enc b) = some (decide (a = b))) (a : α) (hk : iJ P kt (enc a) = true) (hn : a ∉ xs) {K : World -> Prop}
    (hK : ∀ w', uF enc w' r (xs ++ [a]) -> aF w w' (· = r) -> w'.heap.size = w.heap.size -> K w') : tH P kt (some r) (enc a) (.bool true) w K := by
  obtain ⟨es, c, h1, h2⟩ := h
  have hlt := (Array.getElem?_eq_some_iff.1 h1).1
  refine ⟨hk, r, es, c, rfl, h1, none, (OC hE a es.toList xs 0 h2).2 hn, ?_⟩
  show K (w.putObj r (.map (es.push { key := enc a, val := .bool true, born := c }) (c + 1)))
  refine hK _ ⟨es.push { key := enc a, val := .bool true, born := c }, c + 1, by simp [World.putObj, Array.getElem?_setIfInBounds, hlt], ?_⟩ (aF.gB _ _ _) (by simp [World.putObj])
  simp [h2]
end
end Gp
end
section
namespace Gp
open Go
theorem abj {k : IntKind} {n : Int} (h : (Lit.int k n).wf = true) : k.min <= n ∧ n <= k.max := by
  simpa [Lit.wf] using h
theorem wf_u16 {n : Int} (h : (Lit.int .u16 n).wf = true) : 0 <= n ∧ n <= 65535 := abj h
end Gp
end
section
namespace Gp
open Go
def kE {α β : Type} (enc : α -> Value) (ev : β -> Value) (w : World) (r : Nat) (l : List (α × β)) : Prop :=
  ∃ es clock, w.heap[r]? = some (.map es clock) ∧ es.toList.map (fun e => (e.key, e.val)) = (l.map fun x => (enc x.1, ev x.2)) ∧ (es.toList.map (·.born)).Nodup ∧ ∀ e ∈ es.toList, e.born < clock
section
variable {α β : Type} {enc : α -> Value} {ev : β -> Value} {w w' : World} {r : Nat} {l : List (α × β)} {P : Program} {kt : TypeId}
theorem kE.fr {S : Nat -> Prop} (h : kE enc ev w r l) (hf : aF w w' S) (hs : ¬ S r) : kE enc ev w' r l := by
  obtain ⟨es, c, h1, h2, h3⟩ := h
  exact ⟨es, c, by rw [hf.same r (Array.getElem?_eq_some_iff.1 h1).1 hs]; exact h1, h2, h3⟩
theorem kE.ext (h : kE enc ev w r l) (hf : Ext w w') : kE enc ev w' r l := h.fr (hf fun _ => False) (by simp)
theorem kE.lt (h : kE enc ev w r l) : r < w.heap.size := by
  obtain ⟨es, c, h1, h2⟩ := h
  exact (Array.getElem?_eq_some_iff.1 h1).1
theorem kE.new (w : World) (enc : α -> Value) (ev : β -> Value) : kE enc ev (w.alloc (.map #[] 0)) w.heap.size [] := ⟨#[], 0, World.alloc_heap_new w _, rfl, by simp, by simp⟩
variable [DecidableEq α]
def d_ : List (α × β) -> α -> Option β
  | [], _ => none
  | x :: l, a => if a = x.1 then some x.2 else d_ l a
def BG : List (α × β) -> α -> β -> List (α × β)
  | [], a, b => [(a, b)]
  | x :: l, a, b => if a = x.1 then (a, b) :: l else x :: BG l a b
def qw : List (α × β) -> α -> List (α × β)
  | [], _ => []
  | x :: l, a => if a = x.1 then l else x :: qw l a
theorem Ai (l : List (α × β)) (a a' : α) (b : β) : d_ (BG l a b) a' = if a' = a then some b else d_ l a' := by
  induction l with
  | nil => unfold BG d_; split <;> simp_all [d_]
  | cons x l ih =>
    unfold BG
    by_cases h : a = x.1
    · rw [if_pos h]
      unfold d_
      by_cases h' : a' = a
      · rw [if_pos h', if_pos h']
      · rw [if_neg h', if_neg h', if_neg (by rw [<- h]; exact h')]
    · rw [if_neg h]
      unfold d_
      by_cases h' : a' = x.1
      · rw [if_pos h', if_pos h', if_neg (by rw [h']; exact fun e => h e.symm)]
      · rw [if_neg h', if_neg h', ih]
theorem nK {l : List (α × β)} {a : α} : d_ l a = none ↔ a ∉ l.map (·.1) := by
  induction l with
  | nil => simp [d_]
  | cons x l ih =>
    unfold d_
    by_cases h : a = x.1
    · rw [if_pos h]; simp [h]
    · rw [if_neg h, ih]; simp [h]
theorem Pj (l : List (α × β)) (a : α) (b : β) : (BG l a b).map (·.1) = if a ∈ l.map (·.1) then l.map (·.1) else l.map (·.1) ++ [a] := by
  induction l with
  | nil => simp [BG]
  | cons x l ih =>
    unfold BG
    by_cases h : a = x.1
    · rw [if_pos h]; simp [h]
    · rw [if_neg h, List.map_cons, ih, List.map_cons]
      by_cases h' : a ∈ l.map (·.1)
      · rw [if_pos h', if_pos (List.mem_cons_of_mem _ h')]
      · rw [if_neg h', if_neg (by simp only [List.mem_cons, not_or]; exact ⟨h, h'⟩)]; simp
theorem Cj {l : List (α × β)} (h : (l.map (·.1)).Nodup) (a : α) (b : β) : ((BG l a b).map (·.1)).Nodup := by
  rw [Pj]
  split
  · exact h
  · rename_i hn
    rw [List.nodup_append]
    exact ⟨h, by simp, fun x hx y hy e => by simp only [List.mem_singleton] at hy; subst hy; subst e; exact hn hx⟩
theorem F9 (l : List (α × β)) (a : α) : (qw l a).Sublist l := by
  induction l with
  | nil => exact List.Sublist.refl _
  | cons x l ih =>
    unfold qw
    split
    · exact List.sublist_cons_self _ _
    · exact ih.cons_cons _
theorem AP {l : List (α × β)} (h : (l.map (·.1)).Nodup) (a a' : α) : d_ (qw l a) a' = if a' = a then none else d_ l a' := by
  induction l with
  | nil => unfold qw d_; split <;> rfl
  | cons x l ih =>
    rw [List.map_cons, List.nodup_cons] at h
    unfold qw
    by_cases hx : a = x.1
    · rw [if_pos hx]
      by_cases h' : a' = a
      · rw [if_pos h', h', hx]; exact nK.2 h.1
      · rw [if_neg h']
        conv => rhs; unfold d_
        rw [if_neg (by rw [<- hx]; exact h')]
    · rw [if_neg hx]
      unfold d_
      rw [ih h.2]
      by_cases h' : a' = x.1
      · rw [if_pos h', if_pos h', if_neg (by rw [h']; exact fun e => hx e.symm)]
      · rw [if_neg h', if_neg h']
theorem Dz (hE : ∀ a b : α, xQ P 16 kt (enc a) (enc b) = some (decide (a = b))) (a : α) (b : β) : ∀ (es : List MapEntry) (l : List (α × β)) (i : Nat), es.map (fun e => (e.key, e.val)) = (l.map fun x => (enc x.1, ev x.2)) ->
    (d_ l a = none ∧ oq P kt (enc a) es i = some none ∧ BG l a b = l ++ [(a, b)]) ∨
    ∃ j v e, d_ l a = some v ∧ oq P kt (enc a) es i = some (some (i + j, ev v)) ∧ es[j]? = some e ∧ e.key = enc a ∧
      (es.modify j fun e => { e with key := enc a, val := ev b }).map (fun e => (e.key, e.val)) = (BG l a b).map fun x => (enc x.1, ev x.2) := by
  intro es
  induction es with
  | nil =>
    intro l i h
    cases l with
    | nil => exact .inl ⟨rfl, rfl, rfl⟩
    | cons x l => simp at h
  | cons e es ih =>
    intro l i h
    cases l with
    | nil => simp at h
    | cons x l =>
      simp only [List.map_cons, List.cons.injEq, Prod.mk.injEq] at h
      obtain ⟨⟨h1, h2⟩, h3⟩ := h
      unfold oq d_ BG
      rw [h1, hE]
      by_cases hx : a = x.1
      · simp only [hx, decide_true, if_true]
        refine .inr ⟨0, x.2, e, rfl, by rw [h2, Nat.add_zero], rfl, h1, ?_⟩
        simp [List.modify, h3]
      · simp only [hx, decide_false, if_false]
        rcases ih l (i + 1) h3 with ⟨g1, g2, g3⟩ | ⟨j, v, e', g1, g2, g3, g4, g5⟩
        · exact .inl ⟨g1, g2, by rw [g3]; rfl⟩
        · refine .inr ⟨j + 1, v, e', g1, by rw [g2]; congr 3; omega, by simpa using g3, g4, ?_⟩
          simp only [List.modify_succ_cons, List.map_cons, g5, h1, h2]
theorem zu {k : Kind} (h : kE enc ev w r l) (hE : ∀ a b : α, xQ P 16 kt (enc a) (enc b) = some (decide (a = b))) (a : α) (hk : iJ P kt (enc a) = true) {z : Value} {K : k.T -> Prop}
    (h0 : d_ l a = none -> k.dec z K) (h1 : ∀ b, d_ l a = some b -> k.dec (ev b) K) : oL P kt k (some r) (enc a) z w K := by
  obtain ⟨es, c, g1, g2, _⟩ := h
  refine ⟨hk, .inr ⟨r, es, c, rfl, g1, ?_⟩⟩
  cases hl : d_ l a with
  | none =>
    cases l with
    | nil =>
      have : es.toList = [] := by simpa using g2
      exact ⟨none, by rw [this]; rfl, h0 hl⟩
    | cons x l' =>
      rcases Dz hE a x.2 es.toList _ 0 g2 with ⟨_, q2, _⟩ | ⟨j, v, e, q1, _⟩
      · exact ⟨_, q2, h0 hl⟩
      · rw [hl] at q1; cases q1
  | some b =>
    rcases Dz hE a b es.toList _ 0 g2 with ⟨q1, _, _⟩ | ⟨j, v, e, q1, q2, _⟩
    · rw [hl] at q1; cases q1
    · rw [hl] at q1; cases q1
      exact ⟨_, q2, h1 b hl⟩
theorem Jh (es : List MapEntry) (j : Nat) (k v : Value) : (es.modify j fun e => { e with key := k, val := v }).map (·.born) = es.map (·.born) := by
  induction es generalizing j with
  | nil => simp
  | cons e es ih =>
    cases j with
    | zero => simp [List.modify]
    | succ j => rw [List.modify_succ_cons, List.map_cons, List.map_cons, ih]
theorem H8 (h : kE enc ev w r l) (hE : ∀ a b : α, xQ P 16 kt (enc a) (enc b) = some (decide (a = b))) (a : α) (b : β) (hk : iJ P kt (enc a) = true) {K : World -> Prop}
    (hK : ∀ w', kE enc ev w' r (BG l a b) -> aF w w' (· = r) -> w'.heap.size = w.heap.size -> K w') : tH P kt (some r) (enc a) (ev b) w K := by
  obtain ⟨es, c, h1, h2, h3, h4⟩ := h
  have hlt := (Array.getElem?_eq_some_iff.1 h1).1
  rcases Dz hE a b es.toList _ 0 h2 with ⟨_, q2, q3⟩ | ⟨j, v, e, q1, q2, q3, q4, q5⟩
  · refine ⟨hk, r, es, c, rfl, h1, none, q2, ?_⟩
    show K (w.putObj r (.map (es.push { key := enc a, val := ev b, born := c }) (c + 1)))
    refine hK _ ⟨es.push { key := enc a, val := ev b, born := c }, c + 1, by simp [World.putObj, Array.getElem?_setIfInBounds, hlt], ?_, ?_, ?_⟩ (aF.gB _ _ _) (by simp [World.putObj])
    · rw [q3]
      simp [h2]
    · rw [Array.toList_push, List.map_append, List.nodup_append]
      refine ⟨h3, by simp, fun x hx y hy e => ?_⟩
      obtain ⟨e', he', rfl⟩ := List.mem_map.1 hx
      have := h4 e' he'
      simp at hy
      omega
    · intro e he
      rw [Array.toList_push] at he
      rcases List.mem_append.1 he with he | he
      · have := h4 e he; omega
      · have : e = { key := enc a, val := ev b, born := c } := by simpa using he
        rw [this]; simp
  · rw [Nat.zero_add] at q2
    refine ⟨hk, r, es, c, rfl, h1, _, q2, ⟨e, by rw [<- Array.getElem?_toList]; exact q3, q4⟩, ?_⟩
    refine hK _ ⟨_, c, by simp [World.putObj, Array.getElem?_setIfInBounds, hlt]; rfl, ?_, ?_, ?_⟩ (aF.gB _ _ _) (by simp [World.putObj])
    · rw [Array.toList_modify]
      exact q5
    · rw [Array.toList_modify, Jh]; exact h3
    · intro e' he'
      have hm : e'.born ∈ (es.toList.map (·.born)) := by
        rw [<- Jh es.toList j (enc a) (ev b), <- Array.toList_modify]
        exact List.mem_map_of_mem he'
      obtain ⟨e'', he'', hb⟩ := List.mem_map.1 hm
      rw [<- hb]; exact h4 e'' he''
theorem Xr (hE : ∀ a b : α, xQ P 16 kt (enc a) (enc b) = some (decide (a = b))) (a : α) : ∀ (es : List MapEntry) (l : List (α × β)) (i : Nat), es.map (fun e => (e.key, e.val)) = (l.map fun x => (enc x.1, ev x.2)) ->
    (oq P kt (enc a) es i = some none ∧ qw l a = l) ∨
    ∃ j v, j < es.length ∧ oq P kt (enc a) es i = some (some (i + j, v)) ∧ (es.eraseIdx j).map (fun e => (e.key, e.val)) = (qw l a).map fun x => (enc x.1, ev x.2) := by
  intro es
  induction es with
  | nil =>
    intro l i h
    cases l with
    | nil => exact .inl ⟨rfl, rfl⟩
    | cons x l => simp at h
  | cons e es ih =>
    intro l i h
    cases l with
    | nil => simp at h
    | cons x l =>
      simp only [List.map_cons, List.cons.injEq, Prod.mk.injEq] at h
      obtain ⟨⟨h1, h2⟩, h3⟩ := h
      unfold oq qw
      rw [h1, hE]
      by_cases hx : a = x.1
      · simp only [hx, decide_true, if_true]
        exact .inr ⟨0, e.val, by simp, by rw [Nat.add_zero], by simpa using h3⟩
      · simp only [hx, decide_false, if_false]
        rcases ih l (i + 1) h3 with ⟨g1, g2⟩ | ⟨j, v, g1, g2, g3⟩
        · exact .inl ⟨g1, by rw [g2]⟩
        · refine .inr ⟨j + 1, v, by simp; omega, by rw [g2]; congr 3; omega, ?_⟩
          simp only [List.eraseIdx_cons_succ, List.map_cons, g3, h1, h2]
theorem Gw (h : kE enc ev w r l) (hE : ∀ a b : α, xQ P 16 kt (enc a) (enc b) = some (decide (a = b))) (a : α) (hk : iJ P kt (enc a) = true) {K : World -> Prop}
    (hK : ∀ w', kE enc ev w' r (qw l a) -> aF w w' (· = r) -> w'.heap.size = w.heap.size -> K w') : zV P kt (some r) (enc a) w K := by
  obtain ⟨es, c, h1, h2, h3, h4⟩ := h
  have hlt := (Array.getElem?_eq_some_iff.1 h1).1
  rcases Xr hE a es.toList _ 0 h2 with ⟨q1, q2⟩ | ⟨j, v, q0, q1, q2⟩
  · refine ⟨hk, .inr ⟨r, es, c, rfl, h1, none, q1, ?_⟩⟩
    refine hK _ ⟨es, c, by simp [World.putObj, Array.getElem?_setIfInBounds, hlt], ?_, h3, h4⟩ (aF.gB _ _ _) (by simp [World.putObj])
    rw [q2]; exact h2
  · rw [Nat.zero_add] at q1
    refine ⟨hk, .inr ⟨r, es, c, rfl, h1, _, q1, ?_⟩⟩
    have hsub : (es.eraseIdxIfInBounds j).toList.Sublist es.toList := by rw [Array.toList_eraseIdxIfInBounds]; exact List.eraseIdx_sublist _ _
    refine hK _ ⟨es.eraseIdxIfInBounds j, c, by simp [World.putObj, Array.getElem?_setIfInBounds, hlt], ?_, h3.sublist (hsub.map _), fun e he => h4 e (hsub.mem he)⟩ (aF.gB _ _ _) (by simp [World.putObj])
    rw [Array.toList_eraseIdxIfInBounds]
    exact q2
end
end Gp
end
section
namespace Gp
open Go
def spl (L : List Value) (o : Nat) (vs : List Value) : List Value := L.take o ++ vs ++ L.drop (o + vs.length)
theorem aac {A B C vs : List Value} (h : B.length = vs.length) : spl (A ++ (B ++ C)) A.length vs = A ++ (vs ++ C) := by
  unfold spl
  rw [List.take_left, <- h, <- List.drop_drop, List.drop_left, List.drop_left]; simp only [List.append_assoc]
theorem zX {n m o dl dc : Nat} {w : World} {b : Nat} {src : ah} {L vs : List Value} {K : Int -> World -> Prop} (hm : Nat.min src.len dl = m) (hc : oQ w src.a (m * n) vs) (hr : Row w b L) (hl : o + vs.length <= L.length)
    (hone : ∀ v ∈ vs, bK v = true) (hK : ∀ w', Row w' b (spl L o vs) -> aF w w' (· = b) -> K (m : Nat) w') : FD n ⟨some ⟨b, o, none⟩, dl, dc⟩ src w K := by
  refine ⟨vs, by simp only [hm]; exact hc, ?_, hone, ?_⟩
  · rintro a ha
    cases ha
    intro j hj
    rw [iC, hr.cell]
    exact ⟨by simp; omega, hr.frozen _⟩
  · obtain ⟨r, f⟩ := vG vs w L o 0 hr (by omega)
    simp only [hm]
    refine hK _ ?_ (f (· = b) rfl)
    simpa [spl] using r
end Gp
end
section
namespace Gp
open Go
def Zj {α β : Type} (enc : α -> Value) (ev : β -> Value) (w : World) (q r : Nat) (l todo : List (α × β)) : Prop :=
  ∃ seen es clock, w.heap[q]? = some (.mapIter (some r) clock seen clock) ∧ w.heap[r]? = some (.map es clock) ∧
    es.toList.map (fun e => (e.key, e.val)) = (l.map fun x => (enc x.1, ev x.2)) ∧ (es.toList.map (·.born)).Nodup ∧ (∀ e ∈ es.toList, e.born < clock) ∧
    (leftOf es seen).toList.map (fun e => (e.key, e.val)) = todo.map fun x => (enc x.1, ev x.2)
section
variable {α β : Type} {enc : α -> Value} {ev : β -> Value} {w w' : World} {q r : Nat} {l todo : List (α × β)} {P : Program} {kt : TypeId}
theorem Zj.map (h : Zj enc ev w q r l todo) : kE enc ev w r l := by
  obtain ⟨seen, es, c, _, h2, h3, h4, h5, _⟩ := h
  exact ⟨es, c, h2, h3, h4, h5⟩
theorem Zj.fr {S : Nat -> Prop} (h : Zj enc ev w q r l todo) (hf : aF w w' S) (h1 : ¬ S q) (h2 : ¬ S r) : Zj enc ev w' q r l todo := by
  obtain ⟨seen, es, c, g1, g2, g⟩ := h
  exact ⟨seen, es, c, by rw [hf.same q (Array.getElem?_eq_some_iff.1 g1).1 h1]; exact g1, by rw [hf.same r (Array.getElem?_eq_some_iff.1 g2).1 h2]; exact g2, g⟩
theorem Zj.ext (h : Zj enc ev w q r l todo) (hf : Ext w w') : Zj enc ev w' q r l todo := h.fr (hf fun _ => False) (by simp) (by simp)
end
end Gp
namespace Gp
open Go
def aaI (w : World) (q r : Nat) : Nat :=
  match w.heap[q]?, w.heap[r]? with
  | some (.mapIter _ _ seen _), some (.map es _) => (leftOf es seen).size
  | _, _ => 0
theorem Zj.left {α β : Type} {enc : α -> Value} {ev : β -> Value} {w : World} {q r : Nat} {l todo : List (α × β)} (h : Zj enc ev w q r l todo) : aaI w q r = todo.length := by
  obtain ⟨seen, es, c, g1, g2, _, _, _, g6⟩ := h
  unfold aaI
  rw [g1, g2]
  have := congrArg List.length g6
  simpa using this
end Gp
end
section
namespace Gp
open Go
def fill : Code -> U1 -> U1
  | .seq a b, an => match an with
    | .leaf => .seq (fill a .leaf) (fill b .leaf)
    | .seq x y => .seq (fill a x) (fill b y)
    | .join st x y => .join st (fill a x) (fill b y)
    | x => x
  | .cond _ a b, an => match an with
    | .leaf => .cond (fill a .leaf) (fill b .leaf)
    | .cond x y => .cond (fill a x) (fill b y)
    | x => x
  | .block _ a, an => match an with
    | .leaf => .blk (fill a .leaf)
    | .blk x => .blk (fill a x)
    | x => x
  | .loop a, an => match an with
    | .loop st x => .loop st (fill a x)
    | x => x
  | .scope a, an => fill a an
  | .rangeFunc _ _ a b, an => match an with
    | .rng ks x y => .rng ks (fill a x) (fill b y)
    | x => x
  | _, an => an
def Ri : (ks : List Kind) -> NK ks -> NK ks -> Prop
  | [], K, K' => ∀ w, K w -> K' w
  | k :: ks, K, K' => ∀ x : k.T, Ri ks (K x) (K' x)
theorem KW {rest : List Kind} : ∀ (ks : List Kind) {K K' : NK (ks ++ rest)} {φ ψ : List Value -> NK rest -> Prop}, Ri (ks ++ rest) K K' ->
    (∀ vs c c', Ri rest c c' -> φ vs c -> ψ vs c') -> RU ks rest K φ -> RU ks rest K' ψ
  | [], _, _, _, _, h, hp, hk => hp _ _ _ h hk
  | _ :: ks, _, _, _, _, h, hp, ⟨x, hk⟩ => ⟨x, KW ks (h x) (fun _ _ _ hc hh => hp _ _ _ hc hh) hk⟩
theorem IJ : ∀ (sh : List Shape) {K K' : NK (flat sh)} {φ : List Value -> Prop} {w : World}, Ri (flat sh) K K' -> RY sh K φ w -> RY sh K' φ w
  | [], _, _, _, _, h, hk => ⟨hk.1, h _ hk.2⟩
  | .one _ :: sh, _, _, _, _, h, ⟨x, hk⟩ => ⟨x, IJ sh (h x) hk⟩
  | .agg ks :: sh, _, _, _, _, h, hk => KW ks h (fun _ _ _ hc hh => IJ sh hc hh) hk
def ak (P : Program) (f : FuncId) (args : List Value) (sh : List Shape) (w : World) (K : NK (flat sh)) : Prop :=
  Calls P f ⟨args⟩ w fun e w' => RY sh K (fun us => e = .returned (Q5 us)) w'
theorem ak.mono {P : Program} {f : FuncId} {args : List Value} {sh : List Shape} {w : World} {K K' : NK (flat sh)} (h : ak P f args sh w K) (hk : Ri (flat sh) K K') : ak P f args sh w K' :=
  Calls.mono h fun _ _ hh => IJ sh hk hh
def acf (P : Program) (fn : Func) (sh : List Shape) (an : U1) (args : List Value) (w : World) (K : NK (flat sh)) : Prop :=
  match fn.body with
  | some c => cond (Nat.ble args.length fn.ntmps) (den P fn.ntmps c none (fill c an) (IK 0 args) [] w (abQ P fn.results.toList sh K)) False
  | none => False
@[reducible] def aH (A B : Prop) : Prop := B -> A
theorem okF {P : Program} (hP : OU P) {f : FuncId} {fn : Func} (hf : P.funcs[f]? = some fn) {args : List Value} {sh : List Shape} {w : World} {K : NK (flat sh)} {S : Prop} (an : U1)
    (e : acf P fn sh an args w K = S) : aH (ak P f args sh w K) S := by
  intro h
  rw [<- e] at h
  unfold acf at h
  cases hb : fn.body with
  | none => rw [hb] at h; exact h.elim
  | some c =>
    rw [hb] at h
    dsimp only at h
    cases hl : Nat.ble args.length fn.ntmps with
    | false => rw [hl] at h; exact h.elim
    | true =>
      rw [hl] at h
      exact YW hP hf hb rfl (rs := fn.results.toList) rfl sh K (fill c an) args hl w h
@[reducible] def Pt (p : Option Addr) (K : Addr -> Prop) : Prop := ∃ a, p = some a ∧ K a
theorem jk {a : Addr} {K : Addr -> Prop} : Pt (some a) K ↔ K a :=
  ⟨fun ⟨_, h, k⟩ => by cases h; exact k, fun k => ⟨a, rfl, k⟩⟩
def Zm : List Value -> World -> Addr -> Nat -> Prop -> Prop
  | [], _, _, _, R => R
  | v :: vs, w, a, i, R => w.cell? (a.add i) = some v ∧ Zm vs w a (i + 1) R
end Gp
end
section
namespace Gp
open Go
theorem yZ (v : Value) (vs : List Value) (w : World) (a : Addr) (i : Nat) (R : Prop) : Zm (v :: vs) w a i R ↔ (w.cell? (a.add i) = some v ∧ Zm vs w a (i + 1) R) := Iff.rfl
theorem Dq (w : World) (a : Addr) (i : Nat) (R : Prop) : Zm [] w a i R ↔ R := Iff.rfl
theorem sx : (∀ (w : World) (a : Addr) (i : Nat) (K : World -> Prop), iT [] w a i K = K w) ∧ (∀ (a : Addr), (some a).isNone = false) ∧ ((none : Option Addr).isNone = true) ∧
    (∀ (a b : Prop), cond false a b = b) ∧ (∀ (a b : Prop), cond true a b = a) ∧ (∀ (a : Addr) (P : Addr -> Prop), (∃ x, some a = some x ∧ P x) ↔ P a) ∧
    (∀ (k : Kind) (w : World) (a : Addr) (K : k.T -> Prop), Ld k w a K ↔ LdV k (w.cell? a) K) ∧
    (∀ (a : Value) (l : List Value), (a :: l)[0]? = some a) ∧ (∀ (a : Value) (l : List Value) (i : Nat), (a :: l)[i + 1]? = l[i]?) ∧
    (∀ (k : Kind) (v : Value) (K : k.T -> Prop), LdV k (some v) K = k.dec v K) ∧ (∀ (a : Option Addr) (l c : Nat) (K : ah -> Prop), Kind.dec .slice (.slice a l c) K = K ⟨a, l, c⟩) ∧
    (∀ (k : IntKind) (n : Int) (K : Int -> Prop), Kind.dec (.int k) (.int k n) K = K n) ∧ (∀ (b : Bool) (K : Bool -> Prop), Kind.dec .bool (.bool b) K = K b) ∧
    (∀ (a : Option Addr) (K : Option Addr -> Prop), Kind.dec .ptr (.pointer a) K = K a) ∧ (∀ (b : ByteArray) (K : ByteArray -> Prop), Kind.dec .str (.string b) K = K b) ∧
    (∀ (r : Option Nat) (K : Option Nat -> Prop), Kind.dec .map (.map r) K = K r) ∧ (∀ (v : Value) (K : Value -> Prop), Kind.dec .any v K = K v) ∧
    (∀ (a : Addr) (l c size : Nat) (i : Int) (K : Addr -> Prop), bM ⟨some a, l, c⟩ size i K ↔ (0 <= i ∧ i < (l : Int) ∧ K (a.add (i.toNat * size)))) ∧
    (∀ (b o n : Nat), (⟨b, o, none⟩ : Addr).add n = ⟨b, o + n, none⟩) ∧ (∀ n : Nat, 0 + n = n) ∧ (∀ n : Nat, n + 0 = n) :=
  ⟨QE, fun _ => rfl, rfl, fun _ _ => rfl, fun _ _ => rfl, qV, VR, fun _ _ => rfl, fun _ _ _ => rfl, au, aI, aC, pK, nZ, JW, QI, Qq, yI, iC, Nat.zero_add, fun _ => rfl⟩
end Gp
end
