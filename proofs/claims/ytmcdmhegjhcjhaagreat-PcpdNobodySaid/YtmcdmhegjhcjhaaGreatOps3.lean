import Derived.Test.YtmcdmhegjhcjhaaGreatOps2
/- Soundness of 'opDen': the theorem. -/
namespace Gp
open Go

/-! ### Aggregates that are built -/
theorem splice_get (cs : List Value) (off : Nat) (vs : List Value) (h : off + vs.length ≤ cs.length) (i : Nat) :
    (splice cs off vs)[i]? = if i < off then cs[i]? else if i < off + vs.length then vs[i - off]? else cs[i]? := by
  unfold splice
  have hl : (cs.take off).length = off := by simp; omega
  by_cases h1 : i < off
  · rw [if_pos h1, List.getElem?_append_left (by omega), List.getElem?_take_of_lt h1]
  · rw [if_neg h1, List.getElem?_append_right (by omega), hl]
    by_cases h2 : i < off + vs.length
    · rw [if_pos h2, List.getElem?_append_left (by omega)]
    · rw [if_neg h2, List.getElem?_append_right (by omega), List.getElem?_drop]
      congr 1
      omega

theorem splice_length (cs : List Value) (off : Nat) (vs : List Value) (h : off + vs.length ≤ cs.length) : (splice cs off vs).length = cs.length := by
  simp [splice]; omega

theorem fold_splice (off : Nat) : ∀ (vs : List Value) (k : Nat) (cs : Array Value), off + k + vs.length ≤ cs.size →
    ((vs.zipIdx k).foldl (fun (cs : Array Value) (p : Value × Nat) => cs.setIfInBounds (off + p.2) p.1) cs) = ⟨splice cs.toList (off + k) vs⟩ := by
  intro vs
  induction vs with
  | nil => intro k cs _; simp [splice]
  | cons v vs ih =>
    intro k cs h
    simp only [List.length_cons] at h
    rw [List.zipIdx_cons, List.foldl_cons, ih (k + 1) _ (by simp; omega)]
    congr 1
    apply List.ext_getElem?
    intro i
    rw [splice_get _ _ _ (by simp; omega), splice_get _ _ _ (by simp; omega)]
    simp only [Array.toList_setIfInBounds, List.getElem?_set, List.length_cons]
    by_cases h1 : i < off + k
    · have h2 : i < off + (k + 1) := by omega
      have h3 : ¬ (off + k = i) := by omega
      simp [h1, h2, h3]
    · by_cases h2 : i = off + k
      · subst h2
        have h3 : off + k < off + (k + 1) := by omega
        have h4 : off + k < cs.size := by omega
        simp [h3, h4]
      · have h3 : ¬ (i < off + (k + 1)) := by omega
        have h4 : ¬ (off + k = i) := by omega
        simp only [h1, h3, h4, if_false]
        by_cases h5 : i < off + (k + 1) + vs.length
        · have h6 : i < off + k + (vs.length + 1) := by omega
          obtain ⟨m, hm⟩ : ∃ m, i - (off + k) = m + 1 := ⟨i - (off + k) - 1, by omega⟩
          have h7 : i - (off + (k + 1)) = m := by omega
          simp [h5, h6, hm, h7]
        · have h6 : ¬ (i < off + k + (vs.length + 1)) := by omega
          simp [h5, h6]

theorem cellsOfV_one {v : Value} (h : isOne v = true) : cellsOfV v = [v] := by cases v <;> first | rfl | (simp [isOne] at h)

theorem fillO_fillL : ∀ (ps : List (Nat × Value)) (cs out : List Value), (∀ p ∈ ps, isOne p.2 = true) → fillO ps cs = some out → fillL (fun i => some (i * 1, 1)) ps cs = some out := by
  intro ps
  induction ps with
  | nil => exact fun cs out _ h => h
  | cons p ps ih =>
    obtain ⟨i, v⟩ := p
    intro cs out h1 h
    simp only [fillO] at h
    have hv : isOne v = true := h1 (i, v) (by simp)
    cases hb : Nat.blt i cs.length with
    | false => rw [hb] at h; cases h
    | true =>
      rw [hb] at h
      have hlt : i < cs.length := by simpa [Nat.blt_eq] using hb
      have hs : splice cs (i * 1) [v] = cs.set i v := by
        rw [List.set_eq_take_append_cons_drop, if_pos hlt, Nat.mul_one]; rfl
      have hc : (Nat.beq (cellsOfV v).length 1 && Nat.ble (i * 1 + 1) cs.length) = true := by
        rw [cellsOfV_one hv, Bool.and_eq_true]
        exact ⟨rfl, by rw [Nat.ble_eq]; omega⟩
      simp only [fillL, hc, cond_true]
      rw [cellsOfV_one hv, hs]
      exact ih _ _ (fun p hp => h1 p (by simp [hp])) h

theorem allOne_iff : ∀ (vs : List Value), allOne vs → ∀ v ∈ vs, isOne v = true := by
  intro vs
  induction vs with
  | nil => exact fun _ v hv => by simp at hv
  | cons v vs ih =>
    rintro ⟨h1, h2⟩ u hu
    rcases List.mem_cons.1 hu with rfl | hu
    · exact h1
    · exact ih h2 u hu

theorem fillA {sh : Option Shape} {size : Nat} {ps : List (Nat × Operand)} {ρ : Operand → Value} {cs : List Value} {Φ : List Value → Prop}
    (h : cond (anySh sh) (cond (Nat.beq size 1) (allOne (ps.map fun p => ρ p.2) ∧ (match fillO (ps.map fun p => (p.1, ρ p.2)) cs with
         | some cs => Φ cs
         | none => False)) False)
         (match fillL (fun i => some (i * size, size)) (ps.map fun p => (p.1, ρ p.2)) cs with
         | some cs => Φ cs
         | none => False)) : ∃ out, fillL (fun i => some (i * size, size)) (ps.map fun p => (p.1, ρ p.2)) cs = some out ∧ Φ out := by
  cases ha : anySh sh with
  | false =>
    rw [ha] at h
    simp only [cond_false] at h
    split at h
    · rename_i out hf; exact ⟨out, hf, h⟩
    · exact h.elim
  | true =>
    rw [ha] at h
    simp only [cond_true] at h
    cases hb : Nat.beq size 1 with
    | false => rw [hb] at h; exact h.elim
    | true =>
      rw [hb] at h
      have hs : size = 1 := Nat.eq_of_beq_eq_true hb
      subst hs
      simp only [cond_true] at h
      obtain ⟨h1, h⟩ := h
      split at h
      · rename_i out hf
        refine ⟨out, fillO_fillL _ _ _ (fun p hp => ?_) hf, h⟩
        obtain ⟨q, hq, rfl⟩ := List.mem_map.1 hp
        exact allOne_iff _ h1 _ (List.mem_map.2 ⟨q, hq, rfl⟩)
      · exact h.elim

theorem fillL_fill (place place' : Nat → Option (Nat × Nat)) (hp : ∀ i x, place i = some x → place' i = some x) : ∀ (ps : List (Nat × Value)) (cs out : List Value), fillL place ps cs = some out →
    Instr.fill place' ⟨cs⟩ ps = some ⟨out⟩ := by
  intro ps
  induction ps with
  | nil => intro cs out h; simp [fillL] at h; subst h; rfl
  | cons p ps ih =>
    obtain ⟨i, v⟩ := p
    intro cs out h
    simp only [fillL] at h
    cases hpl : place i with
    | none => simp [hpl] at h
    | some x =>
      obtain ⟨off, size⟩ := x
      simp only [hpl] at h
      cases hb : (Nat.beq (cellsOfV v).length size && Nat.ble (off + size) cs.length) with
      | false => simp [hb] at h
      | true =>
        simp only [hb, cond_true] at h
        simp only [Bool.and_eq_true, Nat.beq_eq, Nat.ble_eq] at hb
        obtain ⟨h1, h2⟩ := hb
        rw [cellsOfV_eq] at h1 h
        have h3 : v.cells.size = size := by rw [← h1]; simp
        have := ih _ _ h
        have hf := fold_splice off v.cells.toList 0 ⟨cs⟩ (by simp; omega)
        simp only [Nat.add_zero] at hf
        have hz : v.cells.zipIdx.foldl (fun (cs : Array Value) (x : Value × Nat) => cs.setIfInBounds (off + x.2) x.1) ⟨cs⟩ = ⟨splice cs off v.cells.toList⟩ := by
          rw [← Array.foldl_toList, Array.toList_zipIdx]
          exact hf
        simp only [Instr.fill, hp _ _ hpl]
        have c1 : (v.cells.size ≠ size || off + v.cells.size > (⟨cs⟩ : Array Value).size) = false := by
          simp [h3]; omega
        simp only [c1, Bool.false_eq_true, if_false]
        exact (congrArg (fun a => Instr.fill place' a ps) hz).trans this

section
variable {P : Program}

theorem placesOf_run {w : World} : ∀ (fs : List Field) (pl : List (Nat × Nat)), placesOf P fs = some pl →
    (fs.mapM fun (f : Field) => (do pure (f.offset, ← Go.sizeOf f.type) : Sem (Nat × Nat))).run P w = .ok pl w := by
  intro fs
  induction fs with
  | nil => intro pl h; simp [placesOf] at h; subst h; simp
  | cons f fs ih =>
    intro pl h
    simp only [placesOf] at h
    cases hs : sizeOf? P f.type with
    | none => simp [hs] at h
    | some s =>
      cases hr : placesOf P fs with
      | none => simp [hs, hr] at h
      | some l =>
        simp only [hs, hr, Option.some.injEq] at h
        subst h
        have hi := ih l hr
        rw [List.mapM_cons]
        simp only [Sem.run_bind, sizeOf?_run hs, Result.andThen_ok, Sem.run_pure, hi]

theorem fieldPlace_run {w : World} {fs : Array Field} {f off size : Nat} (h : fieldPlace? P fs f = some (off, size)) (hs : Nat.beq size 0 = false) (a : Addr) :
    ∃ fd, fs[f]? = some fd ∧ (fieldPlace a fd).run P w = .ok (a.add off) w := by
  unfold fieldPlace? at h
  cases hf : fs.toList[f]? with
  | none => simp [hf] at h
  | some fd =>
    simp only [hf] at h
    cases hz : sizeOf? P fd.type with
    | none => simp [hz] at h
    | some s =>
      simp only [hz, Option.some.injEq, Prod.mk.injEq] at h
      obtain ⟨rfl, rfl⟩ := h
      refine ⟨fd, by simpa using hf, ?_⟩
      have : s ≠ 0 := by intro e; subst e; simp at hs
      simp [fieldPlace, sizeOf?_run hz, this]

theorem part_run {w : World} {t : TypeId} {d : TypeDesc} {size off : Nat} {cs : Array Value} {φ : Value → Prop} (hd : P.underlying t = some d) (hs : sizeOf? P t = some size)
    (h : partOf d size off cs.toList φ) : ∃ v, (part t cs off).run P w = .ok v w ∧ φ v := by
  unfold partOf at h
  cases hg : isAggD d with
  | true =>
    simp only [hg, cond_true] at h
    refine ⟨_, ?_, h⟩
    simp only [part, Sem.run_bind, isAgg_run hd, Result.andThen_ok, hg, if_true, sizeOf?_run hs, Sem.run_pure, Result.ok.injEq, and_true, Value.agg.injEq]
    apply Array.toList_inj.mp
    simp [Array.toList_extract, List.extract_eq_take_drop]
  | false =>
    simp only [hg, cond_false] at h
    cases hc : cs.toList[off]? with
    | none => simp [hc] at h
    | some v =>
      simp only [hc] at h
      refine ⟨v, ?_, h⟩
      have hc' : cs[off]? = some v := by simpa using hc
      simp [part, isAgg_run hd, hg, hc']

/-! ### Numbers and texts -/
theorem ikEq_eq {k k' : IntKind} (h : ikEq k k' = true) : k = k' := by cases k <;> cases k' <;> first | rfl | (simp [ikEq] at h)

theorem intBin_run {op : BinOp} {k : IntKind} {a b : Int} {φ : Value → Prop} {t : TypeId} {w : World} (hop : op ≠ .shl ∧ op ≠ .shr) (h : intBin op k a b φ) :
    ∃ v, (binOp op t (.int k a) (.int k b)).run P w = .ok v w ∧ φ v := by
  cases op <;> simp only [intBin] at h <;> first
    | exact absurd rfl hop.1
    | exact absurd rfl hop.2
    | exact h.elim
    | (refine ⟨_, ?_, h⟩; simp [binOp, Op.intArith]; done)
    | (refine ⟨_, ?_, h⟩; simp [binOp, Op.intCmp]; done)
    | (refine ⟨_, ?_, h⟩; simp only [binOp, ne_eq, not_true_eq_false, if_false]; rfl)
    | (refine ⟨_, ?_, h.2⟩; simp [binOp, Op.intDiv, h.1]; done)

theorem strBin_run {op : BinOp} {a b : ByteArray} {φ : Value → Prop} {t : TypeId} {w : World} (h : strBin op a b φ) :
    ∃ v, (binOp op t (.string a) (.string b)).run P w = .ok v w ∧ φ v := by
  cases op <;> simp only [strBin] at h <;> first
    | exact h.elim
    | (refine ⟨_, ?_, h⟩; simp [binOp, Op.stringOp, strEq, strLt]; done)
    | (refine ⟨_, ?_, h.2⟩
       have : ¬ (IntKind.i64.max < ((a.size + b.size : Nat) : Int)) := by omega
       simp [binOp, Op.stringOp] at this ⊢
       simp [this])
end
end Gp
