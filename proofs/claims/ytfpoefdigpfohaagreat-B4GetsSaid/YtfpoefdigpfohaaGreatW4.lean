import Derived.Test.YtfpoefdigpfohaaGreatW3
import Derived.Lib.Overlaps
section
namespace Gp
open Go
theorem sU : IntKind.bits .i64 = 64 := rfl
theorem uO {a b : Nat} (ha : a < 2 ^ 63) (hb : b < 2 ^ 63) : nN .i64 (a : Int) (b : Int) = ((a &&& b : Nat) : Int) := by
  unfold nN
  have h1 : (BitVec.ofInt (IntKind.bits .i64) (a : Int)).toNat = a := by rw [sU, BitVec.toNat_ofInt]; omega
  have h2 : (BitVec.ofInt (IntKind.bits .i64) (b : Int)).toNat = b := by rw [sU, BitVec.toNat_ofInt]; omega
  rw [BitVec.toNat_and, h1, h2]
  have : a &&& b <= a := Nat.and_le_left
  rw [wrap_i64 (by omega) (by omega)]
theorem xJ {a b : Nat} (ha : a < 2 ^ 63) (hb : b < 2 ^ 63) : Bj .i64 (a : Int) (b : Int) = ((a ||| b : Nat) : Int) := by
  unfold Bj
  have h1 : (BitVec.ofInt (IntKind.bits .i64) (a : Int)).toNat = a := by rw [sU, BitVec.toNat_ofInt]; omega
  have h2 : (BitVec.ofInt (IntKind.bits .i64) (b : Int)).toNat = b := by rw [sU, BitVec.toNat_ofInt]; omega
  rw [BitVec.toNat_or, h1, h2]
  have : a ||| b < 2 ^ 63 := Nat.or_lt_two_pow ha hb
  rw [wrap_i64 (by omega) (by omega)]
theorem Vm {a b : Nat} (ha : a < 256) (hb : b < 256) : nN .u8 (a : Int) (b : Int) = ((a &&& b : Nat) : Int) := by
  unfold nN
  have e : IntKind.bits .u8 = 8 := rfl
  have h1 : (BitVec.ofInt (IntKind.bits .u8) (a : Int)).toNat = a := by rw [e, BitVec.toNat_ofInt]; omega
  have h2 : (BitVec.ofInt (IntKind.bits .u8) (b : Int)).toNat = b := by rw [e, BitVec.toNat_ofInt]; omega
  rw [BitVec.toNat_and, h1, h2]
  have : a &&& b <= a := Nat.and_le_left
  rw [IntKind.wrap_u8]; omega
theorem yL {a k : Nat} (hk : k <= 64) : lu .i64 (a : Int) (k : Int) = ((a / 2 ^ k : Nat) : Int) := by
  unfold lu
  have e : (2 : Int) ^ (min (k : Int).toNat (IntKind.bits .i64)) = ((2 ^ k : Nat) : Int) := by
    rw [sU, Int.toNat_natCast, Nat.min_eq_left hk]; simp
  rw [e, Int.fdiv_eq_ediv_of_nonneg _ (Int.natCast_nonneg _), Int.natCast_ediv]
theorem Vg {a k : Nat} (hk : k <= 8) : lu .u8 (a : Int) (k : Int) = ((a / 2 ^ k : Nat) : Int) := by
  unfold lu
  have e : (2 : Int) ^ (min (k : Int).toNat (IntKind.bits .u8)) = ((2 ^ k : Nat) : Int) := by
    rw [show IntKind.bits .u8 = 8 from rfl, Int.toNat_natCast, Nat.min_eq_left hk]; simp
  rw [e, Int.fdiv_eq_ediv_of_nonneg _ (Int.natCast_nonneg _), Int.natCast_ediv]
theorem Oi {a k : Nat} (hk : k <= 64) (h : a * 2 ^ k < 2 ^ 63) : yZ .i64 (a : Int) (k : Int) = ((a * 2 ^ k : Nat) : Int) := by
  unfold yZ
  have e : (2 : Int) ^ (min (k : Int).toNat (IntKind.bits .i64)) = ((2 ^ k : Nat) : Int) := by
    rw [sU, Int.toNat_natCast, Nat.min_eq_left hk]; simp
  rw [e, <- Int.natCast_mul, wrap_i64 (by omega) (by omega)]
theorem UU (a k : Nat) : a &&& 2 ^ k = a / 2 ^ k % 2 * 2 ^ k := by
  apply Nat.eq_of_testBit_eq
  intro i
  rw [Nat.testBit_and, Nat.testBit_two_pow]
  have h2 : a.testBit k = decide (a / 2 ^ k % 2 = 1) := Nat.testBit_eq_decide_div_mod_eq
  have hc : a / 2 ^ k % 2 = 0 ∨ a / 2 ^ k % 2 = 1 := by omega
  by_cases hk : k = i
  · subst hk
    rcases hc with h | h
    · simp [h2, h]
    · rw [h2, h]; simp
  · rcases hc with h | h
    · simp [h, hk]
    · rw [h, Nat.one_mul, Nat.testBit_two_pow]; simp [hk]
theorem vw (a k : Nat) : a &&& (2 ^ k - 1) = a % 2 ^ k := Nat.and_two_pow_sub_one_eq_mod a k
theorem sQ {a k b : Nat} (hb : b < 2 ^ k) : a * 2 ^ k ||| b = a * 2 ^ k + b := by
  have := Nat.two_pow_add_eq_or_of_lt (i := k) (b := b) hb a
  rw [Nat.mul_comm a, this]
theorem Qg {n : Nat} {K : World -> Prop} : ∀ (ds : List Nat) (w : World), (∀ d ∈ ds, n <= d ∧ w.heap[d]? = some (.deferred (some []))) -> ds.Nodup -> (∀ w', bF w w' (fun b => n <= b) -> w'.heap.size = w.heap.size -> K w') -> tH ds w K := by
  intro ds
  induction ds with
  | nil => intro w _ _ h; exact h w (bF.refl _ _) rfl
  | cons d ds ih =>
    intro w h1 h2 h
    refine ⟨(h1 d (List.mem_cons_self ..)).2, ih _ ?_ (List.nodup_cons.1 h2).2 ?_⟩
    · intro e he
      have := h1 e (List.mem_cons_of_mem _ he)
      refine ⟨this.1, ?_⟩
      have hne : ¬ d = e := fun x => (List.nodup_cons.1 h2).1 (x ▸ he)
      simp [World.putObj, hne, this.2]
    · intro w' f z
      exact h w' (((bF.nT w d _).mono fun b e => by have := (h1 d (List.mem_cons_self ..)).1; omega).trans f fun _ _ e => e) (by simpa [World.putObj] using z)
end Gp
end
section
namespace Gp
open Go
structure gK {α : Type} (n : Nat) (f : α -> List Value) (w : World) (s : ah) (xs : List α) : Prop where
  len : s.len = xs.length
  mem : (s.a = none ∧ xs = [] ∧ s.cap = 0) ∨ ∃ b pad, s.a = some ⟨b, 0, none⟩ ∧ s.cap * n = xs.length * n + pad.length ∧ Row w b (xs.flatMap f ++ pad)
structure xQ {α : Type} (n : Nat) (f : α -> List Value) (w : World) (s : ah) (xs : List α) : Prop where
  len : s.len = xs.length
  cells : gB w s.a (s.len * n) (xs.flatMap f)
  cap : s.len <= s.cap
theorem jq {z : List Value} : ∀ k, (aH z k).length = k * z.length
  | 0 => by simp [aH]
  | k + 1 => by simp [aH, jq k, Nat.add_mul]; omega
section
variable {α : Type} {n : Nat} {f : α -> List Value} {w w' : World} {s : ah} {xs : List α}
theorem gK.nil : gK n f w ⟨none, 0, 0⟩ [] := ⟨rfl, .inl ⟨rfl, rfl, rfl⟩⟩
theorem gK.lt (h : gK n f w s xs) {b : Nat} (hb : ah.at s b) : b < w.heap.size := by
  obtain ⟨o, hb⟩ := hb
  obtain ⟨_, ⟨ha, _, _⟩ | ⟨c, pad, ha, _, hr⟩⟩ := h
  · rw [ha] at hb; cases hb
  · rw [ha] at hb; cases hb; exact hr.lt
theorem gK.at_eq (h : gK n f w s xs) {a : Addr} (ha : s.a = some a) : ah.at s a.block := by
  obtain ⟨_, ⟨ha', _, _⟩ | ⟨c, pad, ha', _, hr⟩⟩ := h
  · rw [ha'] at ha; cases ha
  · rw [ha'] at ha; cases ha; exact ⟨0, ha'⟩
theorem gK.fr {S : Nat -> Prop} (h : gK n f w s xs) (hf : bF w w' S) (hs : ∀ b, ah.at s b -> ¬ S b) : gK n f w' s xs := by
  obtain ⟨hl, ⟨ha, h1, h2⟩ | ⟨b, pad, ha, hc, hr⟩⟩ := h
  · exact ⟨hl, .inl ⟨ha, h1, h2⟩⟩
  · exact ⟨hl, .inr ⟨b, pad, ha, hc, hr.fr hf (hs b ⟨0, ha⟩)⟩⟩
theorem gK.ext (h : gK n f w s xs) (hf : Ext w w') : gK n f w' s xs := h.fr (hf fun _ => False) (fun _ _ => by simp)
theorem gK.sl (hn : ∀ x, (f x).length = n) (h0 : 0 < n) (h : gK n f w s xs) : xQ n f w s xs := by
  obtain ⟨hl, ⟨ha, rfl, hc⟩ | ⟨b, pad, ha, hc, hr⟩⟩ := h
  · exact ⟨hl, by rw [ha]; rfl, by rw [hl]; simp⟩
  · refine ⟨hl, ?_, ?_⟩
    · rw [ha]
      refine ⟨by rw [jh f n hn, hl], fun j hj => ?_⟩
      rw [fB, hr.cell, Nat.zero_add, List.getElem?_append_left hj]
    · rw [hl]
      exact Nat.le_of_mul_le_mul_right (by omega : xs.length * n <= s.cap * n) h0
theorem xQ.nil : xQ n f w ⟨none, 0, 0⟩ [] := ⟨rfl, rfl, Nat.le_refl _⟩
theorem xQ.at_ (hn : ∀ x, (f x).length = n) (h0 : 0 < n) (h : xQ n f w s xs) {i : Nat} {x : α} (hi : xs[i]? = some x) : ∃ a, s.a = some a ∧ ∀ j v, (f x)[j]? = some v -> w.cell? (a.add (i * n + j)) = some v := by
  have hlt := (List.getElem?_eq_some_iff.1 hi).1
  have hc := h.cells
  have hfl := jh f n hn xs
  have hm : (i + 1) * n <= xs.length * n := Nat.mul_le_mul_right _ hlt
  rw [Nat.add_mul] at hm
  cases hsa : s.a with
  | none =>
    rw [hsa] at hc
    have h0 : xs.flatMap f = [] := hc
    rw [h0] at hfl
    simp only [List.length_nil] at hfl
    omega
  | some a =>
    rw [hsa] at hc
    refine ⟨a, rfl, fun j v hj => ?_⟩
    have hjn : j < n := by have := (List.getElem?_eq_some_iff.1 hj).1; rw [hn] at this; exact this
    rw [hc.2 _ (by omega), flat_get f n hn xs i j hjn, hi]
    exact hj
theorem xQ.fr {S : Nat -> Prop} (h : xQ n f w s xs) (hf : bF w w' S) (hs : ∀ a, s.a = some a -> 0 < xs.length -> ¬ S a.block) : xQ n f w' s xs := by
  refine ⟨h.len, ?_, h.cap⟩
  have hc := h.cells
  cases hsa : s.a with
  | none => rw [hsa] at hc; exact hc
  | some a =>
    rw [hsa] at hc
    refine ⟨hc.1, fun j hj => ?_⟩
    have := hc.2 j hj
    rw [List.getElem?_eq_getElem hj] at this ⊢
    refine I7 this hf (by
      rw [block_add]
      refine hs a hsa ?_
      cases xs with
      | nil => simp at hj
      | cons => simp)
theorem xQ.ext (h : xQ n f w s xs) (hf : Ext w w') : xQ n f w' s xs := h.fr (hf fun _ => False) (by simp)
theorem NS {e : TypeId} {bytes : Nat} {z : List Value} {ys : List α} {K : ah -> World -> Prop} (hn : ∀ x, (f x).length = n) (h : gK n f w s xs) (hz : z.length = n) (h0 : 0 < n) (h1 : ∀ x, ∀ v ∈ f x, dD v = true)
    (hl : (xs.length + ys.length) * bytes <= 2 ^ 46) (hl2 : xs.length + ys.length <= 2 ^ 46)
    (hK : ∀ s' w', gK n f w' s' (xs ++ ys) -> (bF w w' (ah.at s)) -> (∀ b, ah.at s' b -> ah.at s b ∨ w.heap.size <= b) -> K s' w') : FX e n bytes z s ys.length (ys.flatMap f) w K := by
  obtain ⟨hlen, hc⟩ := id h
  have hone : ∀ v ∈ ys.flatMap f, dD v = true := fun v hv => by
    obtain ⟨x, _, hx⟩ := List.mem_flatMap.1 hv
    exact h1 x v hx
  have hyl := jh f n hn ys
  have hxl := jh f n hn xs
  by_cases hcap : s.len + ys.length <= s.cap
  · rcases hc with ⟨ha, rfl, hc⟩ | ⟨b, pad, ha, hc, hr⟩
    · simp at hlen
      have : ys = [] := by cases ys with
        | nil => rfl
        | cons _ _ => simp at hcap; omega
      subst this
      refine .inl ⟨hcap, fun a ha' => (by rw [ha] at ha'; cases ha'), hone, ?_⟩
      rw [ha]
      exact hK _ _ ⟨by simp [hlen], .inl ⟨rfl, rfl, hc⟩⟩ (bF.refl _ _) (fun b ⟨o, hb⟩ => by cases hb)
    · have hmul : (s.len + ys.length) * n <= s.cap * n := Nat.mul_le_mul_right _ hcap
      rw [Nat.add_mul, hlen] at hmul
      obtain ⟨r2, f2⟩ := rP (ys.flatMap f) w (xs.flatMap f ++ pad) (s.len * n) 0 hr (by simp only [List.length_append]; rw [hyl, hxl, hlen]; omega)
      refine .inl ⟨hcap, fun a ha' => ?_, hone, ?_⟩
      · rw [ha] at ha'; cases ha'
        intro j hj
        rw [fB, fB, hr.cell, hr.frozen]
        refine ⟨?_, rfl⟩
        rw [List.getElem?_eq_getElem (by simp only [List.length_append]; rw [hxl, hlen]; omega)]
        rfl
      · rw [ha]
        simp only [fB, Nat.zero_add]
        have e1 : (xs.flatMap f ++ pad).take (s.len * n + 0) = xs.flatMap f := by rw [Nat.add_zero, hlen, <- hxl]; simp
        have e2 : ((xs.flatMap f ++ pad).drop (s.len * n + 0 + (ys.flatMap f).length)).length + ys.length * n = pad.length := by
          simp only [List.length_drop, List.length_append]
          rw [hxl, hyl, hlen]; omega
        rw [e1] at r2
        refine hK _ _ ⟨by simp [hlen], .inr ⟨b, (xs.flatMap f ++ pad).drop (s.len * n + 0 + (ys.flatMap f).length), rfl, ?_, ?_⟩⟩ (f2 _ ⟨0, ha⟩) (fun c ⟨o, hc'⟩ => .inl (by cases hc'; exact ⟨0, ha⟩))
        · show s.cap * n = _
          simp only [List.length_append, Nat.add_mul]; omega
        · rw [List.flatMap_append]; exact r2
  · have hb : (s.len + ys.length) * bytes <= 2 ^ 46 := by rw [hlen]; exact hl
    refine .inr ⟨by omega, hb, by omega, xs.flatMap f, ?_, fun c h1' h2' => ?_⟩
    · exact (h.sl hn h0).cells
    · refine hK _ _ ⟨by simp [hlen], .inr ⟨w.heap.size, aH z (c - (s.len + ys.length)), rfl, ?_, by rw [List.flatMap_append]; exact Row.new w.drew _ e⟩⟩ ((bF.drew w _).trans (bF.alloc w.drew _ _) fun _ _ e => e) (fun b ⟨o, hb⟩ => .inr (by cases hb; exact Nat.le_refl _))
      rw [jq, hz]
      simp only [List.length_append]
      rw [hlen] at h1' ⊢
      rw [<- Nat.add_mul]
      congr 1
      omega
theorem xC {e : TypeId} {bytes : Nat} {z : List Value} {t : ah} {ys : List α} {K : ah -> World -> Prop} (hn : ∀ x, (f x).length = n) (h : gK n f w s xs) (ht : xQ n f w t ys) (hz : z.length = n) (h0 : 0 < n) (h1 : ∀ x, ∀ v ∈ f x, dD v = true)
    (hl : (xs.length + ys.length) * bytes <= 2 ^ 46) (hl2 : xs.length + ys.length <= 2 ^ 46)
    (hK : ∀ s' w', gK n f w' s' (xs ++ ys) -> (bF w w' (ah.at s)) -> (∀ b, ah.at s' b -> ah.at s b ∨ w.heap.size <= b) -> K s' w') : gI e n bytes z s t w K := by
  refine ⟨ys.flatMap f, ht.cells, ?_⟩
  rw [ht.len]
  exact NS hn h hz h0 h1 hl hl2 hK
theorem gK.row {b : Nat} (h : Row w b (xs.flatMap f)) : gK n f w ⟨some ⟨b, 0, none⟩, xs.length, xs.length⟩ xs :=
  ⟨rfl, .inr ⟨b, [], rfl, by simp, by simpa using h⟩⟩
theorem xQ.cut (hn : ∀ x, (f x).length = n) (h : xQ n f w s xs) {lo hi : Nat} (h1 : lo <= hi) (h2 : hi <= xs.length) (m : Nat) (hm : m = lo -> lo = hi) :
    xQ n f w ⟨kX s.a m lo n, hi - lo, s.cap - lo⟩ ((xs.take hi).drop lo) := by
  have hcap := h.cap
  have hlen := h.len
  refine ⟨by simp; omega, ?_, by simp only; omega⟩
  have hc := h.cells
  cases hsa : s.a with
  | none =>
    rw [hsa] at hc
    have h0 : xs.flatMap f = [] := hc
    have : ((xs.take hi).drop lo).flatMap f = [] := by
      rw [List.flatMap_eq_nil_iff] at h0 ⊢
      exact fun x hx => h0 x (List.mem_of_mem_take (List.mem_of_mem_drop hx))
    simp only [kX]
    split <;> simpa [gB] using this
  | some a =>
    rw [hsa] at hc
    by_cases hml : m = lo
    · have := hm hml
      subst this
      simp only [kX, hml, if_true, Nat.sub_self, Nat.zero_mul]
      have : List.drop lo (List.take lo xs) = [] := by simp
      rw [this]
      exact ⟨rfl, fun j hj => by simp at hj⟩
    · simp only [kX, hml, if_false, Option.map_some]
      have hfl : (((xs.take hi).drop lo).flatMap f).length = (hi - lo) * n := by
        rw [jh f n hn]; simp; congr 1; omega
      refine ⟨hfl, fun j hj => ?_⟩
      rw [hfl] at hj
      have e : lo * n + j < (xs.flatMap f).length := by
        rw [jh f n hn]
        have h3 : hi * n <= xs.length * n := Nat.mul_le_mul_right _ h2
        have h4 : (hi - lo) * n = hi * n - lo * n := Nat.sub_mul _ _ _
        have h5 : lo * n <= hi * n := Nat.mul_le_mul_right _ h1
        omega
      have ea : (a.add (lo * n)).add j = a.add (lo * n + j) := zo _ _ _
      rw [ea, hc.2 _ e]
      have hn0 : 0 < n := by
        cases n with
        | zero => simp at hj
        | succ n => omega
      have hj' : j = j / n * n + j % n := by rw [Nat.mul_comm]; exact (Nat.div_add_mod j n).symm
      have hjm := Nat.mod_lt j hn0
      have hjd : j / n < hi - lo := (Nat.div_lt_iff_lt_mul hn0).2 hj
      rw [hj', <- Nat.add_assoc, <- Nat.add_mul, flat_get f n hn _ _ _ hjm, flat_get f n hn _ _ _ hjm]
      rw [List.getElem?_drop, List.getElem?_take, if_pos (by omega)]
end
theorem Un {α : Type} {n : Nat} {f : α -> List Value} {w : World} {s : ah} {xs : List α} {lo hi : Int} {K : ah -> Prop} (hn : ∀ x, (f x).length = n) (h : xQ n f w s xs) (h0 : 0 <= lo) (h1 : lo <= hi) (h2 : hi <= xs.length)
    (hK : ∀ s', xQ n f w s' ((xs.take hi.toNat).drop lo.toNat) -> K s') : eY s n lo hi K := by
  have hl := h.len
  have hc := h.cap
  refine ⟨h0, h1, by omega, hK _ ?_⟩
  exact h.cut hn (by omega) (by omega) _ fun e => by omega
end Gp
end
section
namespace Gp
open Go
def AQ {α : Type} (enc : α -> Value) (w : World) (r : Nat) (xs : List α) : Prop :=
  ∃ es clock, w.heap[r]? = some (.map es clock) ∧ es.toList.map (fun e => (e.key, e.val)) = xs.map fun x => (enc x, .bool true)
section
variable {α : Type} {enc : α -> Value} {w w' : World} {r : Nat} {xs : List α} {P : Program} {kt : TypeId}
theorem AQ.fr {S : Nat -> Prop} (h : AQ enc w r xs) (hf : bF w w' S) (hs : ¬ S r) : AQ enc w' r xs := by
  obtain ⟨es, c, h1, h2⟩ := h
  exact ⟨es, c, by rw [hf.same r (Array.getElem?_eq_some_iff.1 h1).1 hs]; exact h1, h2⟩
theorem AQ.ext (h : AQ enc w r xs) (hf : Ext w w') : AQ enc w' r xs := h.fr (hf fun _ => False) (by simp)
theorem AQ.lt (h : AQ enc w r xs) : r < w.heap.size := by
  obtain ⟨es, c, h1, h2⟩ := h
  exact (Array.getElem?_eq_some_iff.1 h1).1
theorem AQ.new (w : World) (enc : α -> Value) : AQ enc (w.alloc (.map #[] 0)) w.heap.size [] := ⟨#[], 0, World.alloc_heap_new w _, rfl⟩
end
end Gp
end
section
namespace Gp
open Go
theorem Vk {k : IntKind} {n : Int} (h : (Lit.int k n).wf = true) : k.min <= n ∧ n <= k.max := by
  simpa [Lit.wf] using h
theorem wf_u8 {n : Int} (h : (Lit.int .u8 n).wf = true) : 0 <= n ∧ n <= 255 := Vk h
theorem Ry {w : World} {x : ah × List Int} (h : (cZ.slice (.int .u8) 1).In w x) : ∃ l : List UInt8, aS w x.1 l := by
  obtain ⟨⟨h1, h2, h3, h4⟩, h5⟩ := h
  have h4 : (x.2 ≠ ([] : List Int)) -> ∃ b o, x.1.a = some ⟨b, o, none⟩ ∧ b < w.heap.size ∧ ∀ i (y : Int), x.2[i]? = some y -> ([Value.int .u8 y] : List Value).length = 1 ∧ ∀ j v, ([Value.int .u8 y] : List Value)[j]? = some v -> w.cell? ⟨b, o + i * 1 + j, none⟩ = some v := h4
  have h1 : x.1.len = x.2.length := h1
  refine ⟨x.2.map fun n => UInt8.ofNat n.toNat, by simpa using h1, ?_, h2⟩
  by_cases hne : x.2 = ([] : List Int)
  · rw [hne] at h1 ⊢
    simp only [List.length_nil] at h1
    rw [h1]
    cases x.1.a with
    | none => rfl
    | some a => exact ⟨rfl, fun j hj => by simp [bytesV] at hj⟩
  · obtain ⟨b, o, ha, hb, hc⟩ := h4 hne
    rw [ha]
    refine ⟨by simp [bytesV, h1], fun j hj => ?_⟩
    simp only [bytesV, List.length_map] at hj
    have hy := List.getElem?_eq_getElem hj
    have := (hc j _ hy).2 0 _ rfl
    rw [fB]
    simp only [Nat.mul_one, Nat.add_zero] at this
    rw [this]
    have hw := wf_u8 (h5 _ (List.getElem_mem hj))
    simp only [bytesV, List.getElem?_map, hy, Option.map_some]
    congr 2
    simp
    omega
end Gp
end
section
namespace Gp
open Go
def nX {α β : Type} (enc : α -> Value) (ev : β -> Value) (w : World) (r : Nat) (l : List (α × β)) : Prop :=
  ∃ es clock, w.heap[r]? = some (.map es clock) ∧ es.toList.map (fun e => (e.key, e.val)) = (l.map fun x => (enc x.1, ev x.2)) ∧ (es.toList.map (·.born)).Nodup ∧ ∀ e ∈ es.toList, e.born < clock
section
variable {α β : Type} {enc : α -> Value} {ev : β -> Value} {w w' : World} {r : Nat} {l : List (α × β)} {P : Program} {kt : TypeId}
theorem nX.fr {S : Nat -> Prop} (h : nX enc ev w r l) (hf : bF w w' S) (hs : ¬ S r) : nX enc ev w' r l := by
  obtain ⟨es, c, h1, h2, h3⟩ := h
  exact ⟨es, c, by rw [hf.same r (Array.getElem?_eq_some_iff.1 h1).1 hs]; exact h1, h2, h3⟩
theorem nX.ext (h : nX enc ev w r l) (hf : Ext w w') : nX enc ev w' r l := h.fr (hf fun _ => False) (by simp)
theorem nX.lt (h : nX enc ev w r l) : r < w.heap.size := by
  obtain ⟨es, c, h1, h2⟩ := h
  exact (Array.getElem?_eq_some_iff.1 h1).1
theorem nX.new (w : World) (enc : α -> Value) (ev : β -> Value) : nX enc ev (w.alloc (.map #[] 0)) w.heap.size [] := ⟨#[], 0, World.alloc_heap_new w _, rfl, by simp, by simp⟩
variable [DecidableEq α]
def Jb : List (α × β) -> α -> Option β
  | [], _ => none
  | x :: l, a => if a = x.1 then some x.2 else Jb l a
def zV : List (α × β) -> α -> β -> List (α × β)
  | [], a, b => [(a, b)]
  | x :: l, a, b => if a = x.1 then (a, b) :: l else x :: zV l a b
def oP : List (α × β) -> α -> List (α × β)
  | [], _ => []
  | x :: l, a => if a = x.1 then l else x :: oP l a
theorem TK (l : List (α × β)) (a : α) (b : β) : (zV l a b).map (·.1) = if a ∈ l.map (·.1) then l.map (·.1) else l.map (·.1) ++ [a] := by
  induction l with
  | nil => simp [zV]
  | cons x l ih =>
    unfold zV
    by_cases h : a = x.1
    · rw [if_pos h]; simp [h]
    · rw [if_neg h, List.map_cons, ih, List.map_cons]
      by_cases h' : a ∈ l.map (·.1)
      · rw [if_pos h', if_pos (List.mem_cons_of_mem _ h')]
      · rw [if_neg h', if_neg (by simp only [List.mem_cons, not_or]; exact ⟨h, h'⟩)]; simp
theorem SN {l : List (α × β)} (h : (l.map (·.1)).Nodup) (a : α) (b : β) : ((zV l a b).map (·.1)).Nodup := by
  rw [TK]
  split
  · exact h
  · rename_i hn
    rw [List.nodup_append]
    exact ⟨h, by simp, fun x hx y hy e => by simp only [List.mem_singleton] at hy; subst hy; subst e; exact hn hx⟩
theorem Ot (l : List (α × β)) (a : α) : (oP l a).Sublist l := by
  induction l with
  | nil => exact List.Sublist.refl _
  | cons x l ih =>
    unfold oP
    split
    · exact List.sublist_cons_self _ _
    · exact ih.cons_cons _
theorem IU (hE : ∀ a b : α, Fj P 16 kt (enc a) (enc b) = some (decide (a = b))) (a : α) (b : β) : ∀ (es : List MapEntry) (l : List (α × β)) (i : Nat), es.map (fun e => (e.key, e.val)) = (l.map fun x => (enc x.1, ev x.2)) ->
    (Jb l a = none ∧ kK P kt (enc a) es i = some none ∧ zV l a b = l ++ [(a, b)]) ∨
    ∃ j v e, Jb l a = some v ∧ kK P kt (enc a) es i = some (some (i + j, ev v)) ∧ es[j]? = some e ∧ e.key = enc a ∧
      (es.modify j fun e => { e with key := enc a, val := ev b }).map (fun e => (e.key, e.val)) = (zV l a b).map fun x => (enc x.1, ev x.2) := by
  intro es
  induction es with
  | nil =>
    intro l i h
    cases l with
    | nil => exact .inl ⟨rfl, rfl, rfl⟩
    | cons x l => simp at h
  | cons e es ih =>
    intro l i h
    cases l with
    | nil => simp at h
    | cons x l =>
      simp only [List.map_cons, List.cons.injEq, Prod.mk.injEq] at h
      obtain ⟨⟨h1, h2⟩, h3⟩ := h
      unfold kK Jb zV
      rw [h1, hE]
      by_cases hx : a = x.1
      · simp only [hx, decide_true, if_true]
        refine .inr ⟨0, x.2, e, rfl, by rw [h2, Nat.add_zero], rfl, h1, ?_⟩
        simp [List.modify, h3]
      · simp only [hx, decide_false, if_false]
        rcases ih l (i + 1) h3 with ⟨g1, g2, g3⟩ | ⟨j, v, e', g1, g2, g3, g4, g5⟩
        · exact .inl ⟨g1, g2, by rw [g3]; rfl⟩
        · refine .inr ⟨j + 1, v, e', g1, by rw [g2]; congr 3; omega, by simpa using g3, g4, ?_⟩
          simp only [List.modify_succ_cons, List.map_cons, g5, h1, h2]
theorem Ai (es : List MapEntry) (j : Nat) (k v : Value) : (es.modify j fun e => { e with key := k, val := v }).map (·.born) = es.map (·.born) := by
  induction es generalizing j with
  | nil => simp
  | cons e es ih =>
    cases j with
    | zero => simp [List.modify]
    | succ j => rw [List.modify_succ_cons, List.map_cons, List.map_cons, ih]
theorem SH (h : nX enc ev w r l) (hE : ∀ a b : α, Fj P 16 kt (enc a) (enc b) = some (decide (a = b))) (a : α) (b : β) (hk : rY P kt (enc a) = true) {K : World -> Prop}
    (hK : ∀ w', nX enc ev w' r (zV l a b) -> bF w w' (· = r) -> w'.heap.size = w.heap.size -> K w') : G6 P kt (some r) (enc a) (ev b) w K := by
  obtain ⟨es, c, h1, h2, h3, h4⟩ := h
  have hlt := (Array.getElem?_eq_some_iff.1 h1).1
  rcases IU hE a b es.toList _ 0 h2 with ⟨_, q2, q3⟩ | ⟨j, v, e, q1, q2, q3, q4, q5⟩
  · refine ⟨hk, r, es, c, rfl, h1, none, q2, ?_⟩
    show K (w.putObj r (.map (es.push { key := enc a, val := ev b, born := c }) (c + 1)))
    refine hK _ ⟨es.push { key := enc a, val := ev b, born := c }, c + 1, by simp [World.putObj, Array.getElem?_setIfInBounds, hlt], ?_, ?_, ?_⟩ (bF.nT _ _ _) (by simp [World.putObj])
    · rw [q3]
      simp [h2]
    · rw [Array.toList_push, List.map_append, List.nodup_append]
      refine ⟨h3, by simp, fun x hx y hy e => ?_⟩
      obtain ⟨e', he', rfl⟩ := List.mem_map.1 hx
      have := h4 e' he'
      simp at hy
      omega
    · intro e he
      rw [Array.toList_push] at he
      rcases List.mem_append.1 he with he | he
      · have := h4 e he; omega
      · have : e = { key := enc a, val := ev b, born := c } := by simpa using he
        rw [this]; simp
  · rw [Nat.zero_add] at q2
    refine ⟨hk, r, es, c, rfl, h1, _, q2, ⟨e, by rw [<- Array.getElem?_toList]; exact q3, q4⟩, ?_⟩
    refine hK _ ⟨_, c, by simp [World.putObj, Array.getElem?_setIfInBounds, hlt]; rfl, ?_, ?_, ?_⟩ (bF.nT _ _ _) (by simp [World.putObj])
    · rw [Array.toList_modify]
      exact q5
    · rw [Array.toList_modify, Ai]; exact h3
    · intro e' he'
      have hm : e'.born ∈ (es.toList.map (·.born)) := by
        rw [<- Ai es.toList j (enc a) (ev b), <- Array.toList_modify]
        exact List.mem_map_of_mem he'
      obtain ⟨e'', he'', hb⟩ := List.mem_map.1 hm
      rw [<- hb]; exact h4 e'' he''
theorem Pe (hE : ∀ a b : α, Fj P 16 kt (enc a) (enc b) = some (decide (a = b))) (a : α) : ∀ (es : List MapEntry) (l : List (α × β)) (i : Nat), es.map (fun e => (e.key, e.val)) = (l.map fun x => (enc x.1, ev x.2)) ->
    (kK P kt (enc a) es i = some none ∧ oP l a = l) ∨
    ∃ j v, j < es.length ∧ kK P kt (enc a) es i = some (some (i + j, v)) ∧ (es.eraseIdx j).map (fun e => (e.key, e.val)) = (oP l a).map fun x => (enc x.1, ev x.2) := by
  intro es
  induction es with
  | nil =>
    intro l i h
    cases l with
    | nil => exact .inl ⟨rfl, rfl⟩
    | cons x l => simp at h
  | cons e es ih =>
    intro l i h
    cases l with
    | nil => simp at h
    | cons x l =>
      simp only [List.map_cons, List.cons.injEq, Prod.mk.injEq] at h
      obtain ⟨⟨h1, h2⟩, h3⟩ := h
      unfold kK oP
      rw [h1, hE]
      by_cases hx : a = x.1
      · simp only [hx, decide_true, if_true]
        exact .inr ⟨0, e.val, by simp, by rw [Nat.add_zero], by simpa using h3⟩
      · simp only [hx, decide_false, if_false]
        rcases ih l (i + 1) h3 with ⟨g1, g2⟩ | ⟨j, v, g1, g2, g3⟩
        · exact .inl ⟨g1, by rw [g2]⟩
        · refine .inr ⟨j + 1, v, by simp; omega, by rw [g2]; congr 3; omega, ?_⟩
          simp only [List.eraseIdx_cons_succ, List.map_cons, g3, h1, h2]
theorem JW (h : nX enc ev w r l) (hE : ∀ a b : α, Fj P 16 kt (enc a) (enc b) = some (decide (a = b))) (a : α) (hk : rY P kt (enc a) = true) {K : World -> Prop}
    (hK : ∀ w', nX enc ev w' r (oP l a) -> bF w w' (· = r) -> w'.heap.size = w.heap.size -> K w') : Dz P kt (some r) (enc a) w K := by
  obtain ⟨es, c, h1, h2, h3, h4⟩ := h
  have hlt := (Array.getElem?_eq_some_iff.1 h1).1
  rcases Pe hE a es.toList _ 0 h2 with ⟨q1, q2⟩ | ⟨j, v, q0, q1, q2⟩
  · refine ⟨hk, .inr ⟨r, es, c, rfl, h1, none, q1, ?_⟩⟩
    refine hK _ ⟨es, c, by simp [World.putObj, Array.getElem?_setIfInBounds, hlt], ?_, h3, h4⟩ (bF.nT _ _ _) (by simp [World.putObj])
    rw [q2]; exact h2
  · rw [Nat.zero_add] at q1
    refine ⟨hk, .inr ⟨r, es, c, rfl, h1, _, q1, ?_⟩⟩
    have hsub : (es.eraseIdxIfInBounds j).toList.Sublist es.toList := by rw [Array.toList_eraseIdxIfInBounds]; exact List.eraseIdx_sublist _ _
    refine hK _ ⟨es.eraseIdxIfInBounds j, c, by simp [World.putObj, Array.getElem?_setIfInBounds, hlt], ?_, h3.sublist (hsub.map _), fun e he => h4 e (hsub.mem he)⟩ (bF.nT _ _ _) (by simp [World.putObj])
    rw [Array.toList_eraseIdxIfInBounds]
    exact q2
end
end Gp
end
section
namespace Gp
open Go
def spl (L : List Value) (o : Nat) (vs : List Value) : List Value := L.take o ++ vs ++ L.drop (o + vs.length)
theorem Bo {A B C vs : List Value} (h : B.length = vs.length) : spl (A ++ (B ++ C)) A.length vs = A ++ (vs ++ C) := by
  unfold spl
  rw [List.take_left, <- h, <- List.drop_drop, List.drop_left, List.drop_left]; simp only [List.append_assoc]
theorem lD {n m o dl dc : Nat} {w : World} {b : Nat} {src : ah} {L vs : List Value} {K : Int -> World -> Prop} (hm : Nat.min src.len dl = m) (hc : gB w src.a (m * n) vs) (hr : Row w b L) (hl : o + vs.length <= L.length)
    (hone : ∀ v ∈ vs, dD v = true) (hK : ∀ w', Row w' b (spl L o vs) -> bF w w' (· = b) -> K (m : Nat) w') : qE n ⟨some ⟨b, o, none⟩, dl, dc⟩ src w K := by
  refine ⟨vs, by simp only [hm]; exact hc, ?_, hone, ?_⟩
  · rintro a ha
    cases ha
    intro j hj
    rw [fB, hr.cell]
    exact ⟨by simp; omega, hr.frozen _⟩
  · obtain ⟨r, f⟩ := rP vs w L o 0 hr (by omega)
    simp only [hm]
    refine hK _ ?_ (f (· = b) rfl)
    simpa [spl] using r
theorem zH {w : World} {b o n : Nat} {A B C : List Value} (hr : Row w b (A ++ (B ++ C))) (ha : A.length = o) (hb : B.length = n) : gB w (some ⟨b, o, none⟩) n B := by
  refine ⟨hb, fun j hj => ?_⟩
  rw [fB, hr.cell, List.getElem?_append_right (by omega), List.getElem?_append_left (by omega)]
  congr 1; omega
theorem Ej {e : TypeId} {n bytes : Nat} {z old : List Value} {s : ah} {m : Nat} {w : World} {K : ah -> World -> Prop} (h1 : s.cap < s.len + m) (h2 : (s.len + m) * bytes <= 2 ^ 46) (h3 : s.len + m <= 2 ^ 46)
    (hc : gB w s.a (s.len * n) old)
    (hK : ∀ (c : Nat) w', s.len + m <= c -> Row w' w.heap.size (old ++ (aH z m ++ aH z (c - (s.len + m)))) -> Ext w w' -> w'.heap.size = w.heap.size + 1 -> K ⟨some ⟨w.heap.size, 0, none⟩, s.len + m, c⟩ w') : Gw e n bytes z s (m : Int) w K := by
  have hmb : m * bytes <= (s.len + m) * bytes := Nat.mul_le_mul_right _ (by omega)
  refine ⟨by omega, by have : ((m * bytes : Nat) : Int) <= 2 ^ 46 := by omega
                       rw [Int.natCast_mul] at this; omega, by omega, ?_⟩
  rw [Int.toNat_natCast]
  refine .inr ⟨h1, h2, by omega, old, hc, fun c h4 h5 => hK c _ h4 ?_ ?_ ?_⟩
  · rw [<- List.append_assoc]
    exact Row.new w.drew _ e
  · exact fun S => (bF.drew w S).trans (bF.alloc w.drew _ S) fun _ _ e => e
  · simp
theorem EU {P : Program} {f : FuncId} {fn : Func} {tS tR e : TypeId} (hf : P.funcs[f]? = some fn) (hname : (fn.name == "runtime.NumGoroutine") = false) (hb : fn.body.isNone = true)
    (hn : Extern.findNext fn = none) (he : Extern.find fn = some (Extern.SlicesOverlaps.overlaps #[tS, tS] #[tR])) (ht : P.underlying tS = some (.slice e)) (hi : (P.info? e).isSome = true)
    {w : World} {b c : Nat} {L M : List Value} {o la ca lb cb : Nat} (hr : Row w b L) (hr' : Row w c M) (hne : b ≠ c) (hM : M ≠ []) {K : Value -> World -> Prop} (hK : K (.bool false) w) :
    U7 P f [Value.slice (some ⟨b, 0, none⟩) la ca, Value.slice (some ⟨c, o, none⟩) lb cb] w K := by
  obtain ⟨i, hi⟩ := Option.isSome_iff_exists.1 hi
  refine ⟨_, _, ?_, hK⟩
  obtain ⟨tA, hA⟩ := id hr
  obtain ⟨tB, hB⟩ := id hr'
  have hov := Lib.run_overlaps_apart (P := P) w tS tR e ht i.size (fun w => by simp [Go.sizeOf, run_typeInfo hi]) ⟨b, 0, none⟩ ⟨c, o, none⟩ la ca lb cb hne tA tB L.length M.length
    (by simp [World.shape?, hA]) (by simp [World.shape?, hB]) (by simpa using hM) (hr.frozen 0) (hr.frozen _)
  rw [run_callFunc_extern hf hname hb hn he]
  simp only [hov]
  rfl
section
variable {α : Type} {n : Nat} {f : α -> List Value}
theorem L_ {xs : List α} {i : Nat} {x : α} (hx : xs[i]? = some x) : xs.flatMap f = (xs.take i).flatMap f ++ (f x ++ (xs.drop (i + 1)).flatMap f) := by
  obtain ⟨h, rfl⟩ := List.getElem?_eq_some_iff.1 hx
  conv => lhs; rw [<- List.take_append_drop i xs, List.drop_eq_getElem_cons h]
  rw [List.flatMap_append, List.flatMap_cons]
theorem H9 {xs : List α} {i : Nat} : xs.flatMap f = (xs.take i).flatMap f ++ (xs.drop i).flatMap f := by
  conv => lhs; rw [<- List.take_append_drop i xs]
  rw [List.flatMap_append]
end
end Gp
end
section
namespace Gp
open Go
def OA {α β : Type} (enc : α -> Value) (ev : β -> Value) (w : World) (q r : Nat) (l todo : List (α × β)) : Prop :=
  ∃ seen es clock, w.heap[q]? = some (.mapIter (some r) clock seen clock) ∧ w.heap[r]? = some (.map es clock) ∧
    es.toList.map (fun e => (e.key, e.val)) = (l.map fun x => (enc x.1, ev x.2)) ∧ (es.toList.map (·.born)).Nodup ∧ (∀ e ∈ es.toList, e.born < clock) ∧
    (leftOf es seen).toList.map (fun e => (e.key, e.val)) = todo.map fun x => (enc x.1, ev x.2)
def Wp {α β : Type} (enc : α -> Value) (ev : β -> Value) (w : World) (q : Nat) (x : α × β) : Prop := ∀ K : Value -> Value -> Prop, K (enc x.1) (ev x.2) -> MC q w K
section
variable {α β : Type} {enc : α -> Value} {ev : β -> Value} {w w' : World} {q r : Nat} {l todo : List (α × β)} {P : Program} {kt : TypeId}
theorem OA.map (h : OA enc ev w q r l todo) : nX enc ev w r l := by
  obtain ⟨seen, es, c, _, h2, h3, h4, h5, _⟩ := h
  exact ⟨es, c, h2, h3, h4, h5⟩
theorem OA.fr {S : Nat -> Prop} (h : OA enc ev w q r l todo) (hf : bF w w' S) (h1 : ¬ S q) (h2 : ¬ S r) : OA enc ev w' q r l todo := by
  obtain ⟨seen, es, c, g1, g2, g⟩ := h
  exact ⟨seen, es, c, by rw [hf.same q (Array.getElem?_eq_some_iff.1 g1).1 h1]; exact g1, by rw [hf.same r (Array.getElem?_eq_some_iff.1 g2).1 h2]; exact g2, g⟩
theorem OA.ext (h : OA enc ev w q r l todo) (hf : Ext w w') : OA enc ev w' q r l todo := h.fr (hf fun _ => False) (by simp) (by simp)
theorem L9 (es : Array MapEntry) : (leftOf es #[]).toList = es.toList := by
  unfold leftOf
  rw [Array.toList_filter]
  exact List.filter_eq_self.2 fun x _ => by simp
theorem SX (h : nX enc ev w r l) {K : Addr -> World -> Prop} (hK : ∀ w', OA enc ev w' w.heap.size r l l -> Ext w w' -> w'.heap.size = w.heap.size + 1 -> K ⟨w.heap.size, 0, none⟩ w') : LY (some r) w K := by
  obtain ⟨es, c, h1, h2, h3, h4⟩ := h
  refine .inr ⟨r, es, c, rfl, h1, hK _ ⟨#[], es, c, World.alloc_heap_new w _, ?_, h2, h3, h4, by rw [L9]; exact h2⟩ (fun S => bF.alloc w _ S) (by simp)⟩
  have := (bF.alloc w (.mapIter (some r) c #[] c) fun _ => False).same r (Array.getElem?_eq_some_iff.1 h1).1 (by simp)
  rw [this]; exact h1
theorem yO : ∀ {L : List MapEntry} {i : Nat} {e : MapEntry}, (L.map (·.born)).Nodup -> L[i]? = some e -> L.filter (fun x => !(x.born == e.born)) = L.eraseIdx i
  | [], i, e, _, h => by simp at h
  | x :: L, 0, e, hn, h => by
    rw [List.getElem?_cons_zero] at h
    cases h
    rw [List.map_cons, List.nodup_cons] at hn
    rw [List.filter_cons_of_neg (by simp), List.eraseIdx_cons_zero]
    refine List.filter_eq_self.2 fun y hy => ?_
    have : y.born ≠ x.born := fun e => hn.1 (List.mem_map.2 ⟨y, hy, e⟩)
    simp [this]
  | x :: L, i + 1, e, hn, h => by
    rw [List.getElem?_cons_succ] at h
    rw [List.map_cons, List.nodup_cons] at hn
    have : x.born ≠ e.born := fun he => hn.1 (List.mem_map.2 ⟨e, List.mem_of_getElem? h, he.symm⟩)
    rw [List.filter_cons_of_pos (by simp [this]), List.eraseIdx_cons_succ, yO hn.2 h]
theorem wH {γ δ : Type} (f : γ -> δ) (L : List γ) (i : Nat) : (L.eraseIdx i).map f = (L.map f).eraseIdx i := by
  induction L generalizing i with
  | nil => simp
  | cons x L ih => cases i <;> simp [ih]
theorem UL (h : OA enc ev w q r l todo) (hqr : q ≠ r) {Kend : World -> Prop} {Kstep : Value -> Value -> World -> Prop} (he : todo = [] -> Kend w)
    (hs : ∀ i x w', todo[i]? = some x -> OA enc ev w' q r l (todo.eraseIdx i) -> Wp enc ev w' q x -> bF w w' (· = q) -> w'.heap.size = w.heap.size -> Kstep (enc x.1) (ev x.2) w') : Ti q w Kend Kstep := by
  obtain ⟨seen, es, c, g1, g2, g3, g4, g5, g6⟩ := h
  refine .inr ⟨r, c, seen, c, es, c, g1, g2, g5, Nat.le_refl _, fun h0 => he ?_, fun e hm w1 hw1 => ?_⟩
  · have : (leftOf es seen).toList = [] := by
      have : leftOf es seen = #[] := Array.eq_empty_of_size_eq_zero h0
      rw [this]
    rw [this] at g6
    exact List.map_eq_nil_iff.1 g6.symm
  · obtain ⟨i, hi⟩ := List.getElem?_of_mem hm
    have hx := congrArg (fun L => L[i]?) g6
    simp only [List.getElem?_map, hi, Option.map_some] at hx
    obtain ⟨x, hx1, hx2⟩ := Option.map_eq_some_iff.1 hx.symm
    simp only [Prod.mk.injEq] at hx2
    have hql := (Array.getElem?_eq_some_iff.1 g1).1
    have hrl := (Array.getElem?_eq_some_iff.1 g2).1
    have hsz : w1.heap = w.heap := by rcases hw1 with rfl | rfl <;> rfl
    have hem : e ∈ es.toList := by
      unfold leftOf at hm
      rw [Array.toList_filter] at hm
      exact (List.mem_filter.1 hm).1
    have q1 : (w1.putObj q (.mapIter (some r) c (seen.push e.born) c)).heap[q]? = some (.mapIter (some r) c (seen.push e.born) c) := by
      simp [World.putObj, hsz, Array.getElem?_setIfInBounds, hql]
    have r1 : (w1.putObj q (.mapIter (some r) c (seen.push e.born) c)).heap[r]? = some (.map es c) := by
      simp [World.putObj, hsz, Array.getElem?_setIfInBounds, hqr, g2]
    have hnd : ((leftOf es seen).toList.map (·.born)).Nodup := by
      unfold leftOf
      rw [Array.toList_filter]
      exact g4.sublist ((List.filter_sublist).map _)
    have fr : bF w (w1.putObj q (.mapIter (some r) c (seen.push e.born) c)) (· = q) := by
      rcases hw1 with rfl | rfl
      · exact bF.nT _ _ _
      · exact (bF.drew w _).trans (bF.nT _ _ _) fun _ _ e => e
    have := hs i x _ hx1 ⟨seen.push e.born, es, c, q1, r1, g3, g4, g5, ?_⟩ (fun K hK => ⟨r, c, seen, es, c, e, q1, r1, hem, g4, by rw [<- hx2.1, <- hx2.2]; exact hK⟩) fr (by simp [World.putObj, hsz])
    · rw [hx2.1, hx2.2] at this; exact this
    · have hl : (leftOf es (seen.push e.born)).toList = (leftOf es seen).toList.eraseIdx i := by
        rw [<- yO hnd hi]
        unfold leftOf
        rw [Array.toList_filter, Array.toList_filter, List.filter_filter]
        refine List.filter_congr fun y _ => ?_
        rw [contains_push]
        cases seen.contains y.born <;> cases (y.born == e.born) <;> rfl
      rw [hl, wH, g6, <- wH]
end
end Gp
namespace Gp
open Go
def R_ (w : World) (q r : Nat) : Nat :=
  match w.heap[q]?, w.heap[r]? with
  | some (.mapIter _ _ seen _), some (.map es _) => (leftOf es seen).size
  | _, _ => 0
theorem OA.left {α β : Type} {enc : α -> Value} {ev : β -> Value} {w : World} {q r : Nat} {l todo : List (α × β)} (h : OA enc ev w q r l todo) : R_ w q r = todo.length := by
  obtain ⟨seen, es, c, g1, g2, _, _, _, g6⟩ := h
  unfold R_
  rw [g1, g2]
  have := congrArg List.length g6
  simpa using this
end Gp
end
section
namespace Gp
open Go
def fill : Code -> MR -> MR
  | .seq a b, an => match an with
    | .leaf => .seq (fill a .leaf) (fill b .leaf)
    | .seq x y => .seq (fill a x) (fill b y)
    | .join st x y => .join st (fill a x) (fill b y)
    | x => x
  | .cond _ a b, an => match an with
    | .leaf => .cond (fill a .leaf) (fill b .leaf)
    | .cond x y => .cond (fill a x) (fill b y)
    | x => x
  | .block _ a, an => match an with
    | .leaf => .blk (fill a .leaf)
    | .blk x => .blk (fill a x)
    | x => x
  | .loop a, an => match an with
    | .loop st x => .loop st (fill a x)
    | x => x
  | .scope a, an => fill a an
  | .rangeFunc _ _ a b, an => match an with
    | .rng ks x y => .rng ks (fill a x) (fill b y)
    | x => x
  | _, an => an
def JQ : (ks : List Kind) -> Em ks -> Em ks -> Prop
  | [], K, K' => ∀ w, K w -> K' w
  | k :: ks, K, K' => ∀ x : k.T, JQ ks (K x) (K' x)
theorem D_ {rest : List Kind} : ∀ (ks : List Kind) {K K' : Em (ks ++ rest)} {φ ψ : List Value -> Em rest -> Prop}, JQ (ks ++ rest) K K' ->
    (∀ vs c c', JQ rest c c' -> φ vs c -> ψ vs c') -> Kv ks rest K φ -> Kv ks rest K' ψ
  | [], _, _, _, _, h, hp, hk => hp _ _ _ h hk
  | _ :: ks, _, _, _, _, h, hp, ⟨x, hk⟩ => ⟨x, D_ ks (h x) (fun _ _ _ hc hh => hp _ _ _ hc hh) hk⟩
theorem zL : ∀ (sh : List Shape) {K K' : Em (flat sh)} {φ : List Value -> Prop} {w : World}, JQ (flat sh) K K' -> Lc sh K φ w -> Lc sh K' φ w
  | [], _, _, _, _, h, hk => ⟨hk.1, h _ hk.2⟩
  | .one _ :: sh, _, _, _, _, h, ⟨x, hk⟩ => ⟨x, zL sh (h x) hk⟩
  | .agg ks :: sh, _, _, _, _, h, hk => D_ ks h (fun _ _ _ hc hh => zL sh hc hh) hk
def ak (P : Program) (f : FuncId) (args : List Value) (sh : List Shape) (w : World) (K : Em (flat sh)) : Prop :=
  Calls P f ⟨args⟩ w fun e w' => Lc sh K (fun us => e = .returned (Jp us)) w'
theorem ak.mono {P : Program} {f : FuncId} {args : List Value} {sh : List Shape} {w : World} {K K' : Em (flat sh)} (h : ak P f args sh w K) (hk : JQ (flat sh) K K') : ak P f args sh w K' :=
  Calls.mono h fun _ _ hh => zL sh hk hh
def VH (P : Program) (fn : Func) (sh : List Shape) (an : MR) (args : List Value) (w : World) (K : Em (flat sh)) : Prop :=
  match fn.body with
  | some c => cond (Nat.ble args.length fn.ntmps) (den P fn.ntmps c none (fill c an) (zF 0 args) [] w (V8 P fn.results.toList sh K)) False
  | none => False
@[reducible] def aN (A B : Prop) : Prop := B -> A
theorem okF {P : Program} (hP : FZ P) {f : FuncId} {fn : Func} (hf : P.funcs[f]? = some fn) {args : List Value} {sh : List Shape} {w : World} {K : Em (flat sh)} {S : Prop} (an : MR)
    (e : VH P fn sh an args w K = S) : aN (ak P f args sh w K) S := by
  intro h
  rw [<- e] at h
  unfold VH at h
  cases hb : fn.body with
  | none => rw [hb] at h; exact h.elim
  | some c =>
    rw [hb] at h
    dsimp only at h
    cases hl : Nat.ble args.length fn.ntmps with
    | false => rw [hl] at h; exact h.elim
    | true =>
      rw [hl] at h
      exact SE hP hf hb rfl (rs := fn.results.toList) rfl sh K (fill c an) args hl w h
@[reducible] def Pt (p : Option Addr) (K : Addr -> Prop) : Prop := ∃ a, p = some a ∧ K a
def Dq : List Value -> World -> Addr -> Nat -> Prop -> Prop
  | [], _, _, _, R => R
  | v :: vs, w, a, i, R => w.cell? (a.add i) = some v ∧ Dq vs w a (i + 1) R
end Gp
end
section
namespace Gp
open Go
theorem RF (v : Value) (vs : List Value) (w : World) (a : Addr) (i : Nat) (R : Prop) : Dq (v :: vs) w a i R ↔ (w.cell? (a.add i) = some v ∧ Dq vs w a (i + 1) R) := Iff.rfl
theorem Uz (w : World) (a : Addr) (i : Nat) (R : Prop) : Dq [] w a i R ↔ R := Iff.rfl
theorem sx : (∀ (w : World) (a : Addr) (i : Nat) (K : World -> Prop), gJ [] w a i K = K w) ∧ (∀ (a : Addr), (some a).isNone = false) ∧ ((none : Option Addr).isNone = true) ∧
    (∀ (a b : Prop), cond false a b = b) ∧ (∀ (a b : Prop), cond true a b = a) ∧ (∀ (a : Addr) (P : Addr -> Prop), (∃ x, some a = some x ∧ P x) ↔ P a) ∧
    (∀ (k : Kind) (w : World) (a : Addr) (K : k.T -> Prop), Ld k w a K ↔ vO k (w.cell? a) K) ∧
    (∀ (a : Value) (l : List Value), (a :: l)[0]? = some a) ∧ (∀ (a : Value) (l : List Value) (i : Nat), (a :: l)[i + 1]? = l[i]?) ∧
    (∀ (k : Kind) (v : Value) (K : k.T -> Prop), vO k (some v) K = k.dec v K) ∧ (∀ (a : Option Addr) (l c : Nat) (K : ah -> Prop), Kind.dec .slice (.slice a l c) K = K ⟨a, l, c⟩) ∧
    (∀ (k : IntKind) (n : Int) (K : Int -> Prop), Kind.dec (.int k) (.int k n) K = K n) ∧ (∀ (b : Bool) (K : Bool -> Prop), Kind.dec .bool (.bool b) K = K b) ∧
    (∀ (a : Option Addr) (K : Option Addr -> Prop), Kind.dec .ptr (.pointer a) K = K a) ∧ (∀ (b : ByteArray) (K : ByteArray -> Prop), Kind.dec .str (.string b) K = K b) ∧
    (∀ (r : Option Nat) (K : Option Nat -> Prop), Kind.dec .map (.map r) K = K r) ∧ (∀ (v : Value) (K : Value -> Prop), Kind.dec .any v K = K v) ∧
    (∀ (a : Addr) (l c size : Nat) (i : Int) (K : Addr -> Prop), dN ⟨some a, l, c⟩ size i K ↔ (0 <= i ∧ i < (l : Int) ∧ K (a.add (i.toNat * size)))) ∧
    (∀ (b o n : Nat), (⟨b, o, none⟩ : Addr).add n = ⟨b, o + n, none⟩) ∧ (∀ n : Nat, 0 + n = n) ∧ (∀ n : Nat, n + 0 = n) ∧
    (∀ (v : Value) (vs : List Value) (w : World) (a : Addr) (i : Nat) (R : Prop), Dq (v :: vs) w a i R ↔ (w.cell? (a.add i) = some v ∧ Dq vs w a (i + 1) R)) ∧ (∀ (w : World) (a : Addr) (i : Nat) (R : Prop), Dq [] w a i R ↔ R) :=
  ⟨Uo, fun _ => rfl, rfl, fun _ _ => rfl, fun _ _ => rfl, IJ, V9, fun _ _ => rfl, fun _ _ _ => rfl, aj, aA, au, aJ, yD, Ol, yI, OI, zy, fB, Nat.zero_add, fun _ => rfl, RF, Uz⟩
end Gp
end
