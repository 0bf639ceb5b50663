import Derived.Test.YtmcdmhegjhcjhaaGreatOps
import Derived.Laws.BytesString
import Derived.Laws.BytesArg
/- Soundness of 'opDen', continued: operations that make or move many cells. -/
namespace Gp
open Go

theorem arr_map {α β : Type} (f : α → β) (xs : Array α) : xs.map f = ⟨xs.toList.map f⟩ := Array.toList_inj.mp (by simp)

/-! ### Rows of zeros -/
theorem repCells_length (z : List Value) (n : Nat) : (repCells z n).length = n * z.length := by
  induction n with
  | zero => simp [repCells]
  | succ n ih => simp [repCells, ih, Nat.add_mul]; omega

theorem repCells_mem {z : List Value} {v : Value} : ∀ {n : Nat}, v ∈ repCells z n → ∃ k : Nat, k < n ∧ v ∈ z
  | 0, h => by simp [repCells] at h
  | n + 1, h => by
    rcases List.mem_append.1 (show v ∈ z ++ repCells z n from h) with h | h
    · exact ⟨0, by omega, h⟩
    · obtain ⟨k, hk, hv⟩ := repCells_mem h
      exact ⟨k, by omega, hv⟩

theorem wrap64_id {n : Int} (h1 : -9223372036854775808 ≤ n) (h2 : n ≤ 9223372036854775807) : IntKind.i64.wrap n = n := by
  rw [IntKind.wrap_i64]; omega

theorem range_cells (z : Array Value) : ∀ n, (List.range (n * z.size)).map (fun i => z[i % z.size]!) = repCells z.toList n := by
  intro n
  induction n with
  | zero => simp [repCells]
  | succ n ih =>
    have e : (n + 1) * z.size = z.size + n * z.size := by rw [Nat.add_mul]; omega
    rw [e, List.range_add, List.map_append, repCells, List.map_map]
    congr 1
    · apply List.ext_getElem
      · simp
      · intro i h1 h2
        simp at h1
        simp [Nat.mod_eq_of_lt h1, h1]
    · rw [← ih]
      apply List.map_congr_left
      intro i _
      simp

theorem zeroCells_eq (z : Array Value) (n : Nat) : Builtin.zeroCells z n = ⟨repCells z.toList n⟩ := by
  apply Array.toList_inj.mp
  simp only [Builtin.zeroCells, Array.toList_map, Array.toList_range]
  exact range_cells z n

theorem madeCells_eq (z : Array Value) (n : Nat) : madeCells z (n * z.size) = ⟨repCells z.toList n⟩ := zeroCells_eq z n

section
variable {P : Program}

/-! ### Stores of many cells -/
theorem add_ne (a : Addr) {i j : Nat} (h : i ≠ j) (hs : a.spot = none) : a.add i ≠ a.add j := by
  unfold Addr.add
  intro e
  by_cases hi : i = 0 <;> by_cases hj : j = 0 <;> simp [hi, hj] at e <;> (try omega)
  · cases a; simp at e; omega
  · cases a; simp at e; omega

theorem isSome_setCell {w : World} {a b : Addr} {v : Value} (h : (w.cell? b).isSome = true) : ((w.setCell a v).cell? b).isSome = true := by
  by_cases e : a = b
  · subst e
    cases hc : w.cell? a with
    | none => simp [hc] at h
    | some u => rw [World.cell?_setCell_same w a v hc]; rfl
  · rw [World.cell?_setCell_other w a b v e]; exact h

theorem run_storeCells (a : Addr) : ∀ (vs : List Value) (i : Nat) (w : World), (∀ v ∈ vs, isOne v = true) →
    (∀ j, j < vs.length → (w.cell? (a.add (i + j))).isSome = true ∧ w.frozen? (a.add (i + j)) = false) → (storeCells a vs i).run P w = .ok () (setCells w a vs i) := by
  intro vs
  induction vs with
  | nil => exact fun i w _ _ => rfl
  | cons v vs ih =>
    intro i w h1 h2
    have h0 := h2 0 (by simp)
    obtain ⟨hr, _⟩ := St_run (P := P) (w := w) (a := a.add i) (v := v) (K := fun _ => True) ⟨h1 v (by simp), by simpa using h0.1, by simpa using h0.2, trivial⟩
    have := ih (i + 1) (w.setCell (a.add i) v) (fun u hu => h1 u (by simp [hu])) (fun j hj => by
      have := h2 (j + 1) (by simp; omega)
      rw [show i + (j + 1) = i + 1 + j by omega] at this
      exact ⟨isSome_setCell this.1, by rw [World.frozen?_setCell]; exact this.2⟩)
    simp [storeCells, hr, this, setCells]

theorem cellsO_first {w : World} {a : Option Addr} {size n l c : Nat} {vs : List Value} (h : CellsO w a (n * size) vs) :
    (Builtin.firstCells size n (.slice a l c)).run P w = .ok ⟨vs⟩ w := by
  cases a with
  | none => simp only [CellsO] at h; subst h; simp [run_firstCells_none]
  | some a =>
    obtain ⟨hl, hc⟩ := h
    refine run_firstCells_some (P := P) w size n a l c vs hl fun j v hj => ?_
    have hlt := (List.getElem?_eq_some_iff.1 hj).1
    rw [hc j hlt, hj]

theorem cellsO_drew {w : World} {a : Option Addr} {n : Nat} {vs : List Value} (h : CellsO w a n vs) : CellsO w.drew a n vs := by
  cases a <;> exact h

theorem app_sound {t t' ty e : TypeId} {i : TypeInfo} {z : Value} (ht : P.underlying t = some (.slice e)) (hi : P.info? e = some i) (hz : i.zero = some z)
    {d : TypeDesc} (ht' : P.underlying t' = some d) (hd : (∃ e', d = .slice e') ∨ d = .string) {x : Value} {n : Nat} {vs : List Value} {w : World} {s : SliceV} {K : SliceV → World → Prop}
    (hlen : ∀ w, (Builtin.lenOf x).run P w = .ok n w) (hx : (Builtin.firstCells i.size n x).run P w = .ok ⟨vs⟩ w) (hx' : (Builtin.firstCells i.size n x).run P w.drew = .ok ⟨vs⟩ w.drew)
    (h : AppVs e i.size i.bytes z.cells.toList s n vs w K) :
    ∃ s' w', (Builtin.append_ #[t, t'] ty #[s.v, x]).run P w = .ok s'.v w' ∧ K s' w' := by
  rcases h with ⟨hfit, hwr, hone, hK⟩ | ⟨hg, h46, h62, old, hold, hK⟩
  · refine ⟨_, _, ?_, hK⟩
    cases hs : s.a with
    | none => rcases hd with ⟨e', rfl⟩ | rfl <;> (simp [Builtin.append_, SliceV.v, run_underlying ht, run_underlying ht', Go.sizeOf, run_typeInfo hi, hlen, hfit, hs, hx])
    | some a =>
      have hst := run_storeCells (P := P) (a.add (s.len * i.size)) vs 0 w hone (by intro j hj; simpa using hwr a hs j hj)
      rcases hd with ⟨e', rfl⟩ | rfl <;> (simp [Builtin.append_, SliceV.v, run_underlying ht, run_underlying ht', Go.sizeOf, run_typeInfo hi, hlen, hfit, hs, hx, hst])
  · have h1 : ¬ (s.len + n ≤ s.cap) := by omega
    have h2 : ¬ (9223372036854775807 < ((s.len : Int) + (n : Int))) := by omega
    have h3 := growslice_fits (bytes := i.bytes) hg (by omega)
    have h3' : ¬ (281474976710656 < Builtin.nextslicecap (s.len + n) s.cap * i.bytes) := by omega
    have hco := cellsO_first (P := P) (l := s.len) (c := s.cap) (cellsO_drew hold)
    refine ⟨_, _, ?_, hK (grownCap w (s.len + n) s.cap e) (grownCap_ge _ _ _ _) ?_⟩
    · rcases hd with ⟨e', rfl⟩ | rfl <;> (simp [Builtin.append_, SliceV.v, run_underlying ht, run_underlying ht', Go.sizeOf, run_typeInfo hi, zeroValue, hz, hlen, h1, h2, h3', Question.forced, hx', hco, newRow, grownCap, zeroCells_eq])
    · simp only [grownCap, Question.cut]
      have := Nat.mod_lt (w.tape w.drawn (.appendCap (s.len + n) s.cap e)) (show 0 < 2 ^ 63 - (s.len + n) by omega)
      omega

theorem appMk_sound {t t' ty e : TypeId} {i : TypeInfo} {z : Value} {ki kv : IntKind} (ht : P.underlying t = some (.slice e)) (hi : P.info? e = some i) (hz : i.zero = some z) (hsz : z.cells.toList.length = i.size)
    (ht' : P.underlying t' = some (.int ki)) {n : Int} {w : World} {s : SliceV} {K : SliceV → World → Prop}
    (h : AppMk e i.size i.bytes z.cells.toList s n w K) :
    ∃ s' w', (Builtin.append_ #[t, t'] ty #[s.v, .int kv n]).run P w = .ok s'.v w' ∧ K s' w' := by
  obtain ⟨h0, hb, hn, h⟩ := h
  obtain ⟨m, rfl⟩ : ∃ m : Nat, n = (m : Int) := ⟨n.toNat, by omega⟩
  rw [Int.toNat_natCast] at h
  have hw : IntKind.i64.wrap (m : Int) = (m : Int) := wrap64_id (by omega) (by omega)
  have hneg : ¬ ((m : Int) < 0) := by omega
  have hb' : ¬ (281474976710656 < (m : Int) * (i.bytes : Int)) := by omega
  by_cases hz0 : m * i.size = 0
  · have he : repCells z.cells.toList m = [] := by
      have := repCells_length z.cells.toList m
      rw [hsz, hz0] at this
      exact List.length_eq_zero_iff.1 this
    rw [he] at h
    rcases h with ⟨hfit, hwr, hone, hK⟩ | ⟨hg, h46, h62, old, hold, hK⟩
    · refine ⟨_, _, ?_, hK⟩
      cases hs : s.a with
      | none => simp [Builtin.append_, SliceV.v, run_underlying ht, run_underlying ht', Go.sizeOf, run_typeInfo hi, asInt, asIntOf, hw, hneg, hb', hfit, hs, hz0]
      | some a => simp [Builtin.append_, SliceV.v, run_underlying ht, run_underlying ht', Go.sizeOf, run_typeInfo hi, asInt, asIntOf, hw, hneg, hb', hfit, hs, hz0, setCells, storeCells]
    · have h1 : ¬ (s.len + m ≤ s.cap) := by omega
      have h2 : ¬ (9223372036854775807 < ((s.len : Int) + (m : Int))) := by omega
      have h3 := growslice_fits (bytes := i.bytes) hg (by omega)
      have h3' : ¬ (281474976710656 < Builtin.nextslicecap (s.len + m) s.cap * i.bytes) := by omega
      have hco := cellsO_first (P := P) (l := s.len) (c := s.cap) (cellsO_drew hold)
      refine ⟨_, _, ?_, hK (grownCap w (s.len + m) s.cap e) (grownCap_ge _ _ _ _) ?_⟩
      · simp [Builtin.append_, SliceV.v, run_underlying ht, run_underlying ht', Go.sizeOf, run_typeInfo hi, asInt, asIntOf, hw, hneg, hb', zeroValue, hz, h1, h2, h3', Question.forced, hz0, hco, newRow, grownCap, zeroCells_eq]
      · simp only [grownCap, Question.cut]
        have := Nat.mod_lt (w.tape w.drawn (.appendCap (s.len + m) s.cap e)) (show 0 < 2 ^ 63 - (s.len + m) by omega)
        omega
  rcases h with ⟨hfit, hwr, hone, hK⟩ | ⟨hg, h46, h62, old, hold, hK⟩
  · refine ⟨_, _, ?_, hK⟩
    cases hs : s.a with
    | none => simp [Builtin.append_, SliceV.v, run_underlying ht, run_underlying ht', Go.sizeOf, run_typeInfo hi, asInt, asIntOf, hw, hneg, hb', hfit, hs, hz0, zeroValue, hz, zeroCells_eq]
    | some a =>
      have hst := run_storeCells (P := P) (a.add (s.len * i.size)) (repCells z.cells.toList m) 0 w hone (by intro j hj; simpa using hwr a hs j hj)
      simp [Builtin.append_, SliceV.v, run_underlying ht, run_underlying ht', Go.sizeOf, run_typeInfo hi, asInt, asIntOf, hw, hneg, hb', hfit, hs, hz0, zeroValue, hz, zeroCells_eq, hst]
  · have h1 : ¬ (s.len + m ≤ s.cap) := by omega
    have h2 : ¬ (9223372036854775807 < ((s.len : Int) + (m : Int))) := by omega
    have h3 := growslice_fits (bytes := i.bytes) hg (by omega)
    have h3' : ¬ (281474976710656 < Builtin.nextslicecap (s.len + m) s.cap * i.bytes) := by omega
    have hco := cellsO_first (P := P) (l := s.len) (c := s.cap) (cellsO_drew hold)
    refine ⟨_, _, ?_, hK (grownCap w (s.len + m) s.cap e) (grownCap_ge _ _ _ _) ?_⟩
    · simp [Builtin.append_, SliceV.v, run_underlying ht, run_underlying ht', Go.sizeOf, run_typeInfo hi, asInt, asIntOf, hw, hneg, hb', zeroValue, hz, h1, h2, h3', Question.forced, hz0, hco, newRow, grownCap, zeroCells_eq]
    · simp only [grownCap, Question.cut]
      have := Nat.mod_lt (w.tape w.drawn (.appendCap (s.len + m) s.cap e)) (show 0 < 2 ^ 63 - (s.len + m) by omega)
      omega

theorem clear_sound {t ty e : TypeId} {i : TypeInfo} {z : Value} (ht : P.underlying t = some (.slice e)) (hi : P.info? e = some i) (hz : i.zero = some z) (hsz : z.cells.toList.length = i.size)
    {w : World} {s : SliceV} {K : World → Prop} (h : ClearSl z.cells.toList s w K) : ∃ w', (Builtin.clear_ #[t] ty #[s.v]).run P w = .ok (.tuple #[]) w' ∧ K w' := by
  obtain ⟨hwr, hone, hK⟩ := h
  refine ⟨_, ?_, hK⟩
  obtain ⟨a, n, c⟩ := s
  cases a with
  | none => simp [Builtin.clear_, SliceV.v, run_underlying ht]
  | some a =>
    cases n with
    | zero => simp [Builtin.clear_, SliceV.v, run_underlying ht, repCells, setCells]
    | succ n =>
      have hst := run_storeCells (P := P) a (repCells z.cells.toList (n + 1)) 0 w (fun v hv => by
        obtain ⟨k, _, hv⟩ := repCells_mem hv
        exact hone v hv) (by intro j hj; rw [repCells_length] at hj; simpa using hwr a rfl j hj)
      simp [Builtin.clear_, SliceV.v, run_underlying ht, zeroValue, run_typeInfo hi, hz, zeroCells_eq, hst]

theorem copy_sound {t t' ty e : TypeId} {i : TypeInfo} (ht : P.underlying t = some (.slice e)) (hi : P.info? e = some i) {w : World} {d s : SliceV} {K : Int → World → Prop}
    (h : CopySl i.size d s w K) : ∃ n w', (Builtin.copy_ #[t, t'] ty #[d.v, s.v]).run P w = .ok (.int .i64 n) w' ∧ K n w' := by
  obtain ⟨vs, hvs, hwr, hone, hK⟩ := h
  refine ⟨_, _, ?_, hK⟩
  have hf := cellsO_first (P := P) (l := s.len) (c := s.cap) hvs
  cases hd : d.a with
  | none => simp [Builtin.copy_, SliceV.v, run_underlying ht, Go.sizeOf, run_typeInfo hi, Builtin.lenOf, hd, hf, goInt]
  | some a =>
    have hst := run_storeCells (P := P) a vs 0 w hone (by intro j hj; simpa using hwr a hd j hj)
    simp [Builtin.copy_, SliceV.v, run_underlying ht, Go.sizeOf, run_typeInfo hi, Builtin.lenOf, hd, hf, hst, goInt]

theorem make_sound {t e : TypeId} {i : TypeInfo} {z : Value} (ht : P.underlying t = some (.slice e)) (hi : P.info? e = some i) (hz : i.zero = some z) (hsz : z.cells.toList.length = i.size)
    {n c : Int} {kl kc : IntKind} {w : World} {K : SliceV → World → Prop} (h : MkSl e i.size i.bytes z.cells.toList n c w K) :
    ∃ s w', (Instr.makeSlice t (.int kl n) (.int kc c)).run P w = .ok s.v w' ∧ K s w' := by
  obtain ⟨h0, h1, h2, h3, hK⟩ := h
  refine ⟨_, _, ?_, hK⟩
  have h2' : c ≤ 9223372036854775807 := Int.le_trans h2 (by decide)
  have h3' : (i.bytes : Int) * c ≤ 281474976710656 := Int.le_trans h3 (by decide)
  rw [run_make w t e i z ht hi hz kl kc n c h0 h1 h3' h2']
  have e0 : i.size = z.cells.size := hsz.symm.trans Array.length_toList
  have e1 : c.toNat * i.size = c.toNat * z.cells.size := congrArg (c.toNat * ·) e0
  rw [e1, madeCells_eq]
  rfl

/-! ### Texts -/
theorem byteCells_length (b : ByteArray) : (byteCells b).length = b.size := by unfold byteCells; rw [List.length_map]; exact Array.length_toList

theorem bytesStr_sound {w : World} {s : SliceV} {K : ByteArray → Prop} (h : BytesStr w s K) : ∃ b, (Conv.bytesToString s.v).run P w = .ok (.string b) w ∧ K b := by
  obtain ⟨b, hl, hc, hK⟩ := h
  refine ⟨b, ?_, hK⟩
  cases hs : s.a with
  | none =>
    rw [hs] at hc
    have : b = .empty := by
      have h0 : b.data.toList = [] := by simpa [CellsO, byteCells] using hc
      cases b with | mk d => simp at h0; subst h0; rfl
    subst this
    simp [Conv.bytesToString, SliceV.v, hs]
  | some a =>
    rw [hs] at hc
    obtain ⟨hn, hcs⟩ := hc
    have hcell : ∀ j v, (byteCells b)[j]? = some v → w.cell? (a.add j) = some v := fun j v hj => by
      have hlt := (List.getElem?_eq_some_iff.1 hj).1
      rw [hcs j hlt, hj]
    have hl2 := run_loadCells_list (P := P) (w := w) a (byteCells b) hcell
    rw [hn] at hl2
    have e1 : byteCells b = (b.data.toList.map fun x => (x.toNat : Int)).map (Value.int .u8) := by simp [byteCells]
    rw [e1] at hl2
    have := run_bytesToString (P := P) w a s.len s.cap _ hl2
    simp only [SliceV.v, hs, this]
    rw [foldl_push_bytes]
    congr 2
    cases b with | mk d =>
    have e2 : ∀ l : List UInt8, l.map ((fun n : Int => UInt8.ofNat n.toNat) ∘ fun x => (x.toNat : Int)) = l := by
      intro l
      induction l with
      | nil => rfl
      | cons x l ih => simp only [List.map_cons, ih]; simp
    simp only [ByteArray.empty, ByteArray.emptyWithCapacity, List.map_map, e2]
    simp
    rfl
end
end Gp
