import Derived.Test.YtcoolonmnjacfaaBufN
import Derived.Lib.Overlaps
/- Copies within rows, appended zeros, and the memory of slices.Insert. -/
namespace Gp
open Go

def spl (L : List Value) (o : Nat) (vs : List Value) : List Value := L.take o ++ vs ++ L.drop (o + vs.length)

theorem spl_mid {A B C vs : List Value} (h : B.length = vs.length) : spl (A ++ (B ++ C)) A.length vs = A ++ (vs ++ C) := by
  unfold spl
  rw [List.take_left, ← h, ← List.drop_drop, List.drop_left, List.drop_left]; simp only [List.append_assoc]

theorem CopySl_row {n m o dl dc : Nat} {w : World} {b : Nat} {src : SliceV} {L vs : List Value} {K : Int → World → Prop} (hm : Nat.min src.len dl = m) (hc : CellsO w src.a (m * n) vs) (hr : Row w b L) (hl : o + vs.length ≤ L.length)
    (hone : ∀ v ∈ vs, isOne v = true) (hK : ∀ w', Row w' b (spl L o vs) → Fr8 w w' (· = b) → K (m : Nat) w') : CopySl n ⟨some ⟨b, o, none⟩, dl, dc⟩ src w K := by
  refine ⟨vs, by simp only [hm]; exact hc, ?_, hone, ?_⟩
  · rintro a ha
    cases ha
    intro j hj
    rw [add_mk, hr.cell]
    exact ⟨by simp; omega, hr.frozen _⟩
  · obtain ⟨r, f⟩ := setCells_row vs w L o 0 hr (by omega)
    simp only [hm]
    refine hK _ ?_ (f (· = b) rfl)
    simpa [spl] using r

theorem cells_row {w : World} {b o n : Nat} {A B C : List Value} (hr : Row w b (A ++ (B ++ C))) (ha : A.length = o) (hb : B.length = n) : CellsO w (some ⟨b, o, none⟩) n B := by
  refine ⟨hb, fun j hj => ?_⟩
  rw [add_mk, hr.cell, List.getElem?_append_right (by omega), List.getElem?_append_left (by omega)]
  congr 1; omega

/-- Zeros behind a part of a slice that has no room for them: a new row. -/
theorem AppMk_grow {e : TypeId} {n bytes : Nat} {z old : List Value} {s : SliceV} {m : Nat} {w : World} {K : SliceV → World → Prop} (h1 : s.cap < s.len + m) (h2 : (s.len + m) * bytes ≤ 2 ^ 46) (h3 : s.len + m ≤ 2 ^ 46)
    (hc : CellsO w s.a (s.len * n) old)
    (hK : ∀ (c : Nat) w', s.len + m ≤ c → Row w' w.heap.size (old ++ (repCells z m ++ repCells z (c - (s.len + m)))) → Ext w w' → w'.heap.size = w.heap.size + 1 → K ⟨some ⟨w.heap.size, 0, none⟩, s.len + m, c⟩ w') : AppMk e n bytes z s (m : Int) w K := by
  have hmb : m * bytes ≤ (s.len + m) * bytes := Nat.mul_le_mul_right _ (by omega)
  refine ⟨by omega, by have : ((m * bytes : Nat) : Int) ≤ 2 ^ 46 := by omega
                       rw [Int.natCast_mul] at this; omega, by omega, ?_⟩
  rw [Int.toNat_natCast]
  refine .inr ⟨h1, h2, by omega, old, hc, fun c h4 h5 => hK c _ h4 ?_ ?_ ?_⟩
  · rw [← List.append_assoc]
    exact Row.new w.drew _ e
  · exact fun S => (Fr8.drew w S).trans (Fr8.alloc w.drew _ S) fun _ _ e => e
  · simp

/-- Two slices in two blocks do not overlap. -/
theorem ExtP_overlaps {P : Program} {f : FuncId} {fn : Func} {tS tR e : TypeId} (hf : P.funcs[f]? = some fn) (hname : (fn.name == "runtime.NumGoroutine") = false) (hb : fn.body.isNone = true)
    (hn : Extern.findNext fn = none) (he : Extern.find fn = some (Extern.SlicesOverlaps.overlaps #[tS, tS] #[tR])) (ht : P.underlying tS = some (.slice e)) (hi : (P.info? e).isSome = true)
    {w : World} {b c : Nat} {L M : List Value} {o la ca lb cb : Nat} (hr : Row w b L) (hr' : Row w c M) (hne : b ≠ c) (hM : M ≠ []) {K : Value → World → Prop} (hK : K (.bool false) w) :
    ExtP P f [Value.slice (some ⟨b, 0, none⟩) la ca, Value.slice (some ⟨c, o, none⟩) lb cb] w K := by
  obtain ⟨i, hi⟩ := Option.isSome_iff_exists.1 hi
  refine ⟨_, _, ?_, hK⟩
  obtain ⟨tA, hA⟩ := id hr
  obtain ⟨tB, hB⟩ := id hr'
  have hov := Lib.run_overlaps_apart (P := P) w tS tR e ht i.size (fun w => by simp [Go.sizeOf, run_typeInfo hi]) ⟨b, 0, none⟩ ⟨c, o, none⟩ la ca lb cb hne tA tB L.length M.length
    (by simp [World.shape?, hA]) (by simp [World.shape?, hB]) (by simpa using hM) (hr.frozen 0) (hr.frozen _)
  rw [run_callFunc_extern hf hname hb hn he]
  simp only [hov]
  rfl

section
variable {α : Type} {n : Nat} {f : α → List Value}

theorem flat_split {xs : List α} {i : Nat} {x : α} (hx : xs[i]? = some x) : xs.flatMap f = (xs.take i).flatMap f ++ (f x ++ (xs.drop (i + 1)).flatMap f) := by
  obtain ⟨h, rfl⟩ := List.getElem?_eq_some_iff.1 hx
  conv => lhs; rw [← List.take_append_drop i xs, List.drop_eq_getElem_cons h]
  rw [List.flatMap_append, List.flatMap_cons]

theorem flat_at {xs : List α} {i : Nat} : xs.flatMap f = (xs.take i).flatMap f ++ (xs.drop i).flatMap f := by
  conv => lhs; rw [← List.take_append_drop i xs]
  rw [List.flatMap_append]
end
end Gp
