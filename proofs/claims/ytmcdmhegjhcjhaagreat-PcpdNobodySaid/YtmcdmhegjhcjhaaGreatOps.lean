import Derived.Test.YtmcdmhegjhcjhaaGreatDen
import Derived.Laws.Append
import Derived.Laws.Slices
import Derived.Laws.MakeOwn
import Derived.Laws.CopyOwn
/- Soundness of 'opDen', operation by operation. -/
namespace Gp
open Go

def Ran (P : Program) (K : Value → World → Prop) : Result Next → Prop
  | .ok (.value v) w => K v w
  | .ok .skip w => K undef w
  | .ok (.enter f args) w => Calls P f args w fun e w' => ∃ v, e = .returned v ∧ K v w'
  | .ok (.round l f tmps assign body) w => RoundIn Fence.wide 0 P l f tmps assign body w fun e w' => ∃ v, e = .returned v ∧ K v w'
  | _ => False

theorem Ran.mono {P : Program} {K K' : Value → World → Prop} (h : ∀ v w, K v w → K' v w) {r : Result Next} (hr : Ran P K r) : Ran P K' r := by
  cases r with
  | ok x w =>
    cases x <;> simp only [Ran] at hr ⊢ <;> first
      | exact h _ _ hr
      | exact Calls.mono hr fun e w' ⟨v, hv, hk⟩ => ⟨v, hv, h _ _ hk⟩
      | exact RoundIn.mono hr fun e w' ⟨v, hv, hk⟩ => ⟨v, hv, h _ _ hk⟩
  | halt x w => exact hr.elim

/-- Functions with a body are entered. -/
structure POk (P : Program) : Prop where
  enter : ∀ (f : FuncId) (fn : Func), P.funcs[f]? = some fn → fn.body.isSome = true → (fn.name == "runtime.NumGoroutine") = false
  mixed : P.follows .mixedOrders = true

section
variable {P : Program} {w : World}

theorem run_underlying {t : TypeId} {d : TypeDesc} (h : P.underlying t = some d) : (underlying t).run P w = .ok d w := by
  simp [underlying, h]

theorem run_typeInfo {t : TypeId} {i : TypeInfo} (h : P.info? t = some i) : (typeInfo t).run P w = .ok i w := by
  simp [typeInfo, h]

theorem sizeOf?_run {t : TypeId} {n : Nat} (h : sizeOf? P t = some n) : (Go.sizeOf t).run P w = .ok n w := by
  unfold sizeOf? at h
  split at h
  · rename_i i hi
    simp only [Option.some.injEq] at h
    simp [Go.sizeOf, run_typeInfo hi, h]
  · cases h

theorem sizeOf?_info {t : TypeId} {n : Nat} (h : sizeOf? P t = some n) : ∃ i, P.info? t = some i ∧ i.size = n := by
  unfold sizeOf? at h
  split at h
  · rename_i i hi
    exact ⟨i, hi, by simpa using h⟩
  · cases h

theorem bytesOf?_info {t : TypeId} {n : Nat} (h : bytesOf? P t = some n) : ∃ i, P.info? t = some i ∧ i.bytes = n := by
  unfold bytesOf? at h
  split at h
  · rename_i i hi
    exact ⟨i, hi, by simpa using h⟩
  · cases h

theorem cellsOfV_eq (v : Value) : cellsOfV v = v.cells.toList := by cases v <;> rfl

theorem zeroCells?_info {t : TypeId} {z : List Value} (h : zeroCells? P t = some z) : ∃ i v, P.info? t = some i ∧ i.zero = some v ∧ v.cells.toList = z := by
  unfold zeroCells? at h
  split at h
  · rename_i i hi
    split at h
    · rename_i v hv
      exact ⟨i, v, hi, hv, by rw [← cellsOfV_eq]; simpa using h⟩
    · cases h
  · cases h

theorem zeroCells?_run {t : TypeId} {z : List Value} (h : zeroCells? P t = some z) : ∃ v, (zeroValue t).run P w = .ok v w ∧ v.cells = ⟨z⟩ := by
  obtain ⟨i, v, hi, hv, hz⟩ := zeroCells?_info h
  exact ⟨v, by simp [zeroValue, run_typeInfo hi, hv], by rw [← hz]⟩

theorem isAgg_run {t : TypeId} {d : TypeDesc} (h : P.underlying t = some d) : (isAgg t).run P w = .ok (isAggD d) w := by
  simp only [isAgg, Sem.run_bind, run_underlying h, Result.andThen_ok]
  cases d <;> rfl

theorem isOne_iff (v : Value) : isOne v = v.oneCell' := by cases v <;> rfl

theorem isOne_cells {v : Value} (h : isOne v = true) : v.cells = #[v] := by cases v <;> first | rfl | (simp [isOne] at h)

theorem add_zero' (a : Addr) : a.add 0 = a := by simp [Addr.add]

theorem add_add (a : Addr) (i j : Nat) (h : i = 0 → a.spot = none ∨ j = 0 ∨ True) : (a.add i).add j = a.add (i + j) := by
  unfold Addr.add
  by_cases hi : i = 0
  · simp [hi]
  · by_cases hj : j = 0
    · simp [hi, hj]
    · simp [hi, hj, Nat.add_assoc]

/-! ### Loads -/
theorem LdN_cells {a : Addr} : ∀ (ks : List Kind) (i : Nat) (φ : List Value → Prop), LdN ks w a i φ →
    ∃ vs, vs.length = ks.length ∧ (∀ j v, vs[j]? = some v → w.cell? (a.add (i + j)) = some v) ∧ φ vs := by
  intro ks
  induction ks with
  | nil => exact fun i φ h => ⟨[], rfl, by simp, h⟩
  | cons k ks ih =>
    rintro i φ ⟨x, hx, h⟩
    obtain ⟨vs, hl, hc, hφ⟩ := ih (i + 1) _ h
    refine ⟨k.enc x :: vs, by simp [hl], fun j v hj => ?_, hφ⟩
    cases j with
    | zero => simp at hj; subst hj; simpa using hx
    | succ j => rw [show i + (j + 1) = i + 1 + j by omega]; exact hc j v (by simpa using hj)

theorem run_loadVar {t : TypeId} {sh : Shape} {n : Nat} {a : Addr} {φ : Value → Prop} (hs : shapeOf P t = some sh) (hn : sizeOf? P t = some n) (hc : sh.cells = n)
    (h : sh.ld w a φ) : ∃ v, (loadVar t a).run P w = .ok v w ∧ φ v := by
  unfold shapeOf at hs
  cases hd : P.underlying t with
  | none => simp [hd] at hs
  | some d =>
    simp only [hd] at hs
    cases hg : isAggD d with
    | false =>
      simp only [hg, cond_false] at hs
      cases hk : kindOf d with
      | none => simp [hk] at hs
      | some k =>
        simp only [hk, Option.some.injEq] at hs
        subst hs
        obtain ⟨x, hx, h⟩ := h
        exact ⟨k.enc x, by simp [loadVar, isAgg_run hd, hg, hx], h⟩
    | true =>
      simp only [hg, cond_true] at hs
      cases hk : cellKinds P 20 t with
      | none => simp [hk] at hs
      | some ks =>
        simp only [hk, Option.some.injEq] at hs
        subst hs
        obtain ⟨vs, hl, hcs, hφ⟩ := LdN_cells ks 0 _ h
        refine ⟨.agg ⟨vs⟩, ?_, hφ⟩
        have hlen : vs.length = n := by rw [hl]; exact hc
        have := run_loadCells_list (P := P) (w := w) a vs (fun j v hj => by simpa using hcs j v hj)
        simp only [loadVar, Sem.run_bind, isAgg_run hd, hg, Result.andThen_ok, if_true, sizeOf?_run hn]
        rw [← hlen, this]
        rfl

/-! ### Stores -/
theorem St_run {a : Addr} {v : Value} {K : World → Prop} (h : St w a v K) : (store a v).run P w = .ok () (w.setCell a v) ∧ K (w.setCell a v) := by
  obtain ⟨h1, h2, h3, h4⟩ := h
  refine ⟨?_, h4⟩
  rw [run_store P w a v .plain (by rw [← isOne_iff]; exact h1)]
  cases hc : w.cell? a with
  | none => simp [hc] at h2
  | some u => simp [h3]

theorem StN_run {a : Addr} {K : World → Prop} : ∀ (vs : List Value) (w : World) (i : Nat), StN vs w a i K → ∃ w', (storeCells a vs i).run P w = .ok () w' ∧ K w' := by
  intro vs
  induction vs with
  | nil => exact fun w i h => ⟨w, rfl, h⟩
  | cons v vs ih =>
    intro w i h
    obtain ⟨h1, h2⟩ := St_run (P := P) h
    obtain ⟨w', h3, h4⟩ := ih _ _ h2
    exact ⟨w', by simp [storeCells, h1, h3], h4⟩
end

end Gp
