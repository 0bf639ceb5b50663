import Derived.Test.YtmcdmhegjhcjhaaGreatOps3
import Derived.Laws.StructEq
import Derived.MapKept
import Derived.WideKeyRuns
import Derived.ChangeKeysEq
namespace Gp
open Go
section
variable {P : Program}

theorem eqDen_run {d : TypeDesc} {x y : Value} {φ : Bool → Prop} {t : TypeId} {w : World} (ht : P.underlying t = some d) (h : eqDen d x y φ) :
    ∃ b, (Op.equal t x y).run P w = .ok b w ∧ φ b := by
  have key : ∀ n, ∃ b, (Op.equalIn (n + 1) t x y).run P w = .ok b w ∧ φ b := by
    intro n
    unfold eqDen at h
    split at h
    · exact ⟨_, by simp [Op.equalIn, run_underlying ht], h⟩
    · rename_i q
      refine ⟨_, ?_, h⟩
      cases q <;> simp [Op.equalIn, run_underlying ht]
    · rename_i q _ _ _ _
      refine ⟨_, ?_, h⟩
      cases q <;> simp [Op.equalIn, run_underlying ht]
    · rename_i q
      refine ⟨_, ?_, h⟩
      cases q <;> simp [Op.equalIn, run_underlying ht]
    · exact h.elim
  exact key 9999

theorem eqDen_guard {d : TypeDesc} {x y : Value} {φ : Bool → Prop} (h : eqDen d x y φ) (op : BinOp) (t : TypeId) (a b : Operand) (w : World) : (eqGuard op t a b x y).run P w = .ok () w := by
  unfold eqDen at h
  split at h <;> first | exact h.elim | (cases op <;> simp [eqGuard])

theorem eqDen_binOp {d : TypeDesc} {x y : Value} {φ : Bool → Prop} (h : eqDen d x y φ) (t : TypeId) :
    binOp .eql t x y = (do pure (.bool (← Op.equal t x y))) ∧ binOp .neq t x y = (do pure (.bool (!(← Op.equal t x y)))) := by
  unfold eqDen at h
  split at h <;> first | exact h.elim | exact ⟨rfl, rfl⟩

theorem partV_run {w : World} {t : TypeId} {d : TypeDesc} {size off : Nat} {cs : Array Value} {v : Value} (hd : P.underlying t = some d) (hs : sizeOf? P t = some size) (h : partV d size off cs.toList = some v) :
    (part t cs off).run P w = .ok v w := by
  obtain ⟨v', hr, hv⟩ := part_run (w := w) (cs := cs) (off := off) (φ := fun v' => v' = v) hd hs (by
    unfold partV at h
    unfold partOf
    cases hg : isAggD d with
    | true => rw [hg] at h; simp only [cond_true, Option.some.injEq] at h ⊢; exact h
    | false => rw [hg] at h; simp only [cond_false] at h ⊢; rw [h])
  rw [hr, hv]

theorem andO_some {b : Bool} {o : Option Bool} {r : Bool} (h : andO b o = some r) : ∃ r', o = some r' ∧ r = (b && r') := by
  cases o with
  | none => cases h
  | some r' => exact ⟨r', rfl, by simpa [andO] using h.symm⟩

theorem eqT_run : ∀ (n : Nat) (t : TypeId) (x y : Value) (b : Bool) (m : Nat) (w : World), eqT P n t x y = some b → n ≤ m → (Op.equalIn m t x y).run P w = .ok b w := by
  intro n
  induction n with
  | zero => intro t x y b m w h; cases h
  | succ n ih =>
    intro t x y b m w h hm
    obtain ⟨m, rfl⟩ : ∃ m', m = m' + 1 := ⟨m - 1, by omega⟩
    unfold eqT at h
    split at h
    · rename_i hu
      rw [run_equalIn_bool' w m t _ _ hu]
      cases h; rfl
    · rename_i k0 k a k' c hu
      cases hk : ikEq k k' with
      | false => rw [hk] at h; cases h
      | true =>
        rw [hk] at h
        have := ikEq_eq hk
        subst this
        rw [run_equalIn_int w m t k k0 _ _ hu]
        cases h; rfl
    · rename_i hu
      rw [run_equalIn_string w m t _ _ hu]
      cases h; rfl
    · rename_i fs xs ys hu
      cases hp : P.stoodInHeld t with
      | true => rw [hp] at h; cases h
      | false =>
        rw [hp] at h
        simp only [cond_false] at h
        have hfs : P.fieldsOf t = fs := by simp [Program.fieldsOf, hu]
        rw [run_equalIn_struct w m t xs ys (by rw [hfs]; exact hu) hp, hfs]
        generalize fs.toList = l at h
        clear hfs hu
        induction l generalizing b with
        | nil => simp only [eqFs, Option.some.injEq] at h; subst h; rfl
        | cons fd l ihl =>
          simp only [eqFs] at h
          cases hnm : (fd.name == "_") with
          | true => rw [hnm] at h; cases h
          | false =>
            rw [hnm] at h
            simp only [cond_false] at h
            split at h
            case h_2 => cases h
            rename_i d size hd hs
            split at h
            case h_2 => cases h
            rename_i u v hu hv
            split at h
            case h_2 => cases h
            rename_i r hr
            obtain ⟨r', hr', rfl⟩ := andO_some h
            have hne : fd.name ≠ "_" := by simpa using hnm
            simp only [Op.eqFields, hne, ne_eq, not_false_eq_true, if_true, Sem.run_bind, partV_run hd hs hu, partV_run hd hs hv, Result.andThen_ok, ih _ _ _ _ m w hr (by omega)]
            cases r with
            | true => simp only [Bool.not_true, Bool.false_eq_true, if_false, Bool.true_and]; exact ihl _ hr'
            | false => simp
    · rename_i n' e xs ys hu
      split at h
      case h_2 => cases h
      rename_i de size hd hs
      obtain ⟨i, hi, hsz⟩ : ∃ i, P.info? e = some i ∧ i.size = size := by
        unfold sizeOf? at hs
        split at hs
        · rename_i i hi; exact ⟨i, hi, by simpa using hs⟩
        · cases hs
      have hc : P.cellsOf e = size := by simp [Program.cellsOf, hi, hsz]
      rw [run_equalIn_array w m xs ys hu hi, hc, List.range_eq_range']
      generalize 0 = j at h ⊢
      clear hu
      induction n' generalizing b j with
      | zero => simp only [eqIs, Option.some.injEq] at h; subst h; rfl
      | succ n' ihn =>
        simp only [eqIs] at h
        split at h
        case h_2 => cases h
        rename_i u v hu hv
        split at h
        case h_2 => cases h
        rename_i r hr
        obtain ⟨r', hr', rfl⟩ := andO_some h
        simp only [List.range'_succ, Op.eqItems, Sem.run_bind, partV_run hd hs hu, partV_run hd hs hv, Result.andThen_ok, ih _ _ _ _ m w hr (by omega)]
        cases r with
        | true => simp only [Bool.not_true, Bool.false_eq_true, if_false, Bool.true_and]; exact ihn _ _ hr'
        | false => simp
    · cases h

/-! ### Maps -/
theorem eqT_und {n : Nat} {t : TypeId} {x y : Value} {b : Bool} (h : eqT P n t x y = some b) : ∃ d, P.underlying t = some d := by
  cases n with
  | zero => cases h
  | succ n =>
    unfold eqT at h
    split at h <;> first | exact ⟨_, by assumption⟩ | cases h

theorem sameNow_agree {n : Nat} {t : TypeId} {d : TypeDesc} {x y : Value} {b : Bool} (hd : P.underlying t = some d) (h : eqT P n t x y = some b) : Instr.sameNow d x y = some b ∨ Instr.sameNow d x y = none := by
  cases n with
  | zero => cases h
  | succ n =>
    unfold eqT at h
    split at h
    · rename_i hu
      rw [hd] at hu; cases hu
      cases h
      exact .inl rfl
    · rename_i k0 k a k' c hu
      rw [hd] at hu; cases hu
      cases hk : ikEq k k' with
      | false => rw [hk] at h; cases h
      | true =>
        rw [hk] at h
        have := ikEq_eq hk
        subst this
        cases h
        exact .inl (by simp [Instr.sameNow])
    · rename_i hu
      rw [hd] at hu; cases hu
      cases h
      exact .inl (by simp [Instr.sameNow, strEq, beq_toListBytes])
    · rename_i hu
      rw [hd] at hu; cases hu
      exact .inr rfl
    · rename_i hu
      rw [hd] at hu; cases hu
      exact .inr rfl
    · cases h

theorem findNow_agree {kt : TypeId} {d : TypeDesc} {key : Value} (hd : P.underlying kt = some d) : ∀ (es : List MapEntry) (i : Nat) (res : Option (Nat × Value)), findV P kt key es i = some res → Instr.findNow d key es i = some res ∨ Instr.findNow d key es i = none := by
  intro es
  induction es with
  | nil => intro i res h; simp only [findV, Option.some.injEq] at h; subst h; exact .inl rfl
  | cons e es ih =>
    intro i res h
    simp only [findV] at h
    split at h
    · rename_i he
      cases h
      rcases sameNow_agree hd he with h1 | h1
      · exact .inl (by simp [Instr.findNow, h1])
      · exact .inr (by simp [Instr.findNow, h1])
    · rename_i he
      rcases sameNow_agree hd he with h1 | h1
      · rcases ih _ _ h with h2 | h2
        · exact .inl (by simp [Instr.findNow, h1, h2])
        · exact .inr (by simp [Instr.findNow, h1, h2])
      · exact .inr (by simp [Instr.findNow, h1])
    · cases h

theorem findAsking_run {kt : TypeId} {key : Value} {w : World} : ∀ (es : List MapEntry) (i : Nat) (res : Option (Nat × Value)), findV P kt key es i = some res → (Instr.findAsking kt key es i).run P w = .ok res w := by
  intro es
  induction es with
  | nil => intro i res h; simp only [findV, Option.some.injEq] at h; subst h; rfl
  | cons e es ih =>
    intro i res h
    simp only [findV] at h
    split at h
    · rename_i he
      cases h
      simp [Instr.findAsking, Op.equal, Op.maxDepth, eqT_run 16 kt _ _ _ 10000 w he (by omega)]
    · rename_i he
      simp [Instr.findAsking, Op.equal, Op.maxDepth, eqT_run 16 kt _ _ _ 10000 w he (by omega), ih _ _ h]
    · cases h

theorem findV_run {kt : TypeId} {d : TypeDesc} {key : Value} {es : List MapEntry} {res : Option (Nat × Value)} {w : World} (hd : P.underlying kt = some d) (h : findV P kt key es 0 = some res) : (Instr.findKey kt key es).run P w = .ok res w := by
  rcases findNow_agree hd es 0 res h with h1 | h1
  · simp [Instr.findKey, run_underlying hd, h1]
  · simp [Instr.findKey, run_underlying hd, h1, findAsking_run es 0 res h]

theorem checkKey_run : ∀ (n : Nat) (t : TypeId) (x y : Value) (b : Bool) (m : Nat) (em : Bool) (w : World), eqT P n t x y = some b → n ≤ m → (Instr.checkKey em m t x).run P w = .ok () w := by
  intro n
  induction n with
  | zero => intro t x y b m em w h; cases h
  | succ n ih =>
    intro t x y b m em w h hm
    obtain ⟨m, rfl⟩ : ∃ m', m = m' + 1 := ⟨m - 1, by omega⟩
    unfold eqT at h
    split at h
    · rename_i hu; simp [Instr.checkKey, run_underlying hu]
    · rename_i hu; simp [Instr.checkKey, run_underlying hu]
    · rename_i hu; simp [Instr.checkKey, run_underlying hu]
    · rename_i fs xs ys hu
      cases hp : P.stoodInHeld t with
      | true => rw [hp] at h; cases h
      | false =>
        rw [hp] at h
        simp only [cond_false] at h
        simp only [Instr.checkKey, Sem.run_bind, run_underlying hu, Result.andThen_ok]
        rw [← Array.forIn_toList]
        generalize fs.toList = l at h
        clear hu
        induction l generalizing b with
        | nil => simp
        | cons fd l ihl =>
          simp only [eqFs] at h
          cases hnm : (fd.name == "_") with
          | true => rw [hnm] at h; cases h
          | false =>
            rw [hnm] at h
            simp only [cond_false] at h
            split at h
            case h_2 => cases h
            rename_i d size hd hs
            split at h
            case h_2 => cases h
            rename_i u v hu hv
            split at h
            case h_2 => cases h
            rename_i r hr
            obtain ⟨r', hr', rfl⟩ := andO_some h
            have hne : fd.name ≠ "_" := by simpa using hnm
            have := ihl _ hr'
            simp only [List.forIn_cons, hne, ne_eq, not_false_eq_true, if_true, Sem.run_bind, partV_run hd hs hu, Result.andThen_ok, ih _ _ _ _ m em w hr (by omega), Sem.run_pure]
            exact this
    · rename_i n' e xs ys hu
      split at h
      case h_2 => cases h
      rename_i de size hd hs
      simp only [Instr.checkKey, Sem.run_bind, run_underlying hu, Result.andThen_ok]
      simp only [Std.Legacy.Range.forIn_eq_forIn_range', Std.Legacy.Range.size, Nat.sub_zero, Nat.add_one_sub_one, Nat.div_one]
      generalize 0 = j at h ⊢
      clear hu
      induction n' generalizing b j with
      | zero => simp
      | succ n' ihn =>
        simp only [eqIs] at h
        split at h
        case h_2 => cases h
        rename_i u v hu hv
        split at h
        case h_2 => cases h
        rename_i r hr
        obtain ⟨r', hr', rfl⟩ := andO_some h
        have := ihn _ _ hr'
        simp only [List.range'_succ, List.forIn_cons, Sem.run_bind, sizeOf?_run hs, Result.andThen_ok, partV_run hd hs hu, ih _ _ _ _ m em w hr (by omega), Sem.run_pure]
        exact this
    · cases h

theorem sameBits_leaf {v : Value} (h : leafV v = true) (n : Nat) : Instr.sameBits n v v = true := by
  cases v <;> first | (cases h; done) | simp [Instr.sameBits, MapKept.bytes_beq]

theorem sameBits_plain {v : Value} (h : plainV v = true) (n : Nat) : Instr.sameBits (n + 1) v v = true := by
  unfold plainV at h
  split at h
  · rename_i cs
    simp only [Instr.sameBits, beq_self_eq_true, Bool.true_and, List.all_eq_true]
    simp only [List.all_eq_true] at h
    rintro ⟨x, y⟩ hxy
    have : x = y := by
      obtain ⟨i, hi⟩ := List.getElem?_of_mem hxy
      simp [List.getElem?_zip_eq_some] at hi
      have := hi.1.symm.trans hi.2
      simpa using this
    subst this
    exact sameBits_leaf (h x (List.of_mem_zip hxy).1) n
  · exact sameBits_leaf h _

theorem keyOK_parts {kt : TypeId} {key : Value} (h : keyOK P kt key = true) : plainV key = true ∧ ∃ d b, P.underlying kt = some d ∧ eqT P 16 kt key key = some b := by
  simp only [keyOK, Bool.and_eq_true, Option.isSome_iff_exists] at h
  obtain ⟨h1, b, hb⟩ := h
  obtain ⟨d, hd⟩ := eqT_und hb
  exact ⟨h1, d, b, hd, hb⟩

theorem dec_elim {k : Kind} {v : Value} {φ : k.T → Prop} (h : k.dec v φ) : ∃ x, v = k.enc x ∧ φ x := by
  cases k <;> cases v <;> first
    | exact h.elim
    | exact ⟨_, rfl, h⟩
    | skip
  case int.int k k' n =>
    simp only [Kind.dec] at h
    cases hb : ikEq k k' with
    | false => rw [hb] at h; exact h.elim
    | true =>
      rw [hb] at h
      have := ikEq_eq hb
      subst this
      exact ⟨n, rfl, h⟩

theorem zeroV?_run {t : TypeId} {z : Value} {w : World} (h : zeroV? P t = some z) : (zeroValue t).run P w = .ok z w := by
  unfold zeroV? at h
  split at h
  · rename_i i hi; simp [zeroValue, run_typeInfo hi, h]
  · cases h

theorem MapGet_run {t kt et : TypeId} {k : Kind} {r : Option Nat} {key zero : Value} {w : World} {K : k.T → Prop} (ht : P.underlying t = some (.map kt et)) (hz : zeroV? P et = some zero) (h : MapGet P kt k r key zero w K) :
    ∃ x, (Instr.lookup t (.map r) key false).run P w = .ok (k.enc x) w ∧ K x := by
  obtain ⟨hk, h⟩ := h
  obtain ⟨_, d, b', hd, hb'⟩ := keyOK_parts hk
  have hck : ∀ em, (Instr.checkKey em 10000 kt key).run P w = .ok () w := fun em => checkKey_run 16 kt key key b' 10000 em w hb' (by omega)
  rcases h with ⟨rfl, h⟩ | ⟨b, es, clock, rfl, hb, res, hres, h⟩
  · obtain ⟨x, hx, h⟩ := dec_elim h
    refine ⟨x, ?_, h⟩
    have hf : (Instr.findKey kt key []).run P w = .ok none w := findV_run hd rfl
    simp [Instr.lookup, run_underlying ht, hck, hf, zeroV?_run hz, hx]
  · obtain ⟨x, hx, h⟩ := dec_elim h
    refine ⟨x, ?_, h⟩
    have hf := findV_run (w := w) hd hres
    cases res with
    | none => simp [Instr.lookup, run_underlying ht, MapKept.run_getObj_map hb, hck, hf, zeroV?_run hz, ← hx]
    | some p =>
      obtain ⟨i, v⟩ := p
      simp [Instr.lookup, run_underlying ht, MapKept.run_getObj_map hb, hck, hf, ← hx]

theorem MapGetV_run {t kt et : TypeId} {r : Option Nat} {key zero : Value} {w : World} {K : Value → Bool → Prop} (ht : P.underlying t = some (.map kt et)) (hz : zeroV? P et = some zero) (h : MapGetV P kt r key zero w K) (ok : Bool) :
    ∃ v b, (Instr.lookup t (.map r) key ok).run P w = .ok (if ok = true then .tuple #[v, .bool b] else v) w ∧ K v b := by
  obtain ⟨hk, h⟩ := h
  obtain ⟨_, d, b', hd, hb'⟩ := keyOK_parts hk
  have hck : ∀ em, (Instr.checkKey em 10000 kt key).run P w = .ok () w := fun em => checkKey_run 16 kt key key b' 10000 em w hb' (by omega)
  rcases h with ⟨rfl, h⟩ | ⟨b, es, clock, rfl, hb, res, hres, h⟩
  · refine ⟨_, _, ?_, h⟩
    have hf : (Instr.findKey kt key []).run P w = .ok none w := findV_run hd rfl
    simp [Instr.lookup, run_underlying ht, hck, hf, zeroV?_run hz]
  · have hf := findV_run (w := w) hd hres
    cases res with
    | none =>
      refine ⟨_, _, ?_, h⟩
      simp [Instr.lookup, run_underlying ht, MapKept.run_getObj_map hb, hck, hf, zeroV?_run hz]
    | some p =>
      obtain ⟨i, v⟩ := p
      refine ⟨_, _, ?_, h⟩
      simp [Instr.lookup, run_underlying ht, MapKept.run_getObj_map hb, hck, hf]

theorem MapSet_run {t kt et : TypeId} {r : Option Nat} {key val : Value} {w : World} {K : World → Prop} (ht : P.underlying t = some (.map kt et)) (h : MapSet P kt r key val w K) :
    ∃ w', (Instr.mapUpdate t (.map r) key val).run P w = .ok () w' ∧ K w' := by
  obtain ⟨hk, b, es, clock, rfl, hb, res, hres, h⟩ := h
  obtain ⟨hp, d, b', hd, hb'⟩ := keyOK_parts hk
  have hck : ∀ em, (Instr.checkKey em 10000 kt key).run P w = .ok () w := fun em => checkKey_run 16 kt key key b' 10000 em w hb' (by omega)
  have hf := findV_run (w := w) hd hres
  cases res with
  | none => exact ⟨_, by simp [Instr.mapUpdate, run_underlying ht, MapKept.run_getObj_map hb, hck, hf, MapKept.run_setObj_map _ hb]; rfl, h⟩
  | some p =>
    obtain ⟨i, v⟩ := p
    obtain ⟨⟨e, he, hke⟩, h⟩ := h
    have hst : (Instr.keyThatStays e.key key).run P w = .ok key w := by
      rw [hke]; simp [Instr.keyThatStays, sameBits_plain hp]
    exact ⟨_, by simp [Instr.mapUpdate, run_underlying ht, MapKept.run_getObj_map hb, hck, hf, he, hst, MapKept.run_setObj_map _ hb]; rfl, h⟩

theorem MapEnt_run {t kt et : TypeId} {r : Option Nat} {key zero : Value} {w : World} {K : Value → Int → World → Prop} (ht : P.underlying t = some (.map kt et)) (hz : zeroV? P et = some zero) (h : MapEnt P kt r key zero w K) :
    ∃ v n w', (Instr.mapEntry t (.map r) key).run P w = .ok (.tuple #[v, .int .i64 n]) w' ∧ K v n w' := by
  obtain ⟨hk, b, es, clock, rfl, hb, res, hres, h⟩ := h
  obtain ⟨hp, d, b', hd, hb'⟩ := keyOK_parts hk
  have hck : ∀ em, (Instr.checkKey em 10000 kt key).run P w = .ok () w := fun em => checkKey_run 16 kt key key b' 10000 em w hb' (by omega)
  have hf := findV_run (w := w) hd hres
  cases res with
  | none => exact ⟨_, _, _, by simp [Instr.mapEntry, run_underlying ht, MapKept.run_getObj_map hb, hck, hf, zeroV?_run hz, MapKept.run_setObj_map _ hb, goInt]; rfl, h⟩
  | some p =>
    obtain ⟨i, v⟩ := p
    obtain ⟨e, he, hke, h⟩ := h
    have hst : (Instr.keyThatStays e.key key).run P w = .ok key w := by
      rw [hke]; simp [Instr.keyThatStays, sameBits_plain hp]
    exact ⟨_, _, _, by simp [Instr.mapEntry, run_underlying ht, MapKept.run_getObj_map hb, hck, hf, he, hst, MapKept.run_setObj_map _ hb, goInt]; rfl, h⟩

theorem EntSt_run {t : TypeId} {r : Option Nat} {k : IntKind} {n : Int} {val : Value} {w : World} {K : World → Prop} (h : EntSt r n val w K) :
    ∃ w', (Instr.entryStore t (.map r) (.int k n) val).run P w = .ok () w' ∧ K w' := by
  obtain ⟨b, es, clock, i, rfl, hb, hi, h⟩ := h
  exact ⟨_, by simp [Instr.entryStore, MapKept.run_getObj_map hb, asInt, asIntOf, hi, MapKept.run_setObj_map _ hb]; rfl, h⟩

theorem MapDel_run {t kt et t' ty : TypeId} {r : Option Nat} {key : Value} {w : World} {K : World → Prop} (ht : P.underlying t = some (.map kt et)) (h : MapDel P kt r key w K) :
    ∃ w', (Builtin.delete_ ⟨[t, t']⟩ ty ⟨[.map r, key]⟩).run P w = .ok (.tuple #[]) w' ∧ K w' := by
  obtain ⟨hk, h⟩ := h
  obtain ⟨_, d, b', hd, hb'⟩ := keyOK_parts hk
  have hck : ∀ em, (Instr.checkKey em 10000 kt key).run P w = .ok () w := fun em => checkKey_run 16 kt key key b' 10000 em w hb' (by omega)
  rcases h with ⟨rfl, h⟩ | ⟨b, es, clock, rfl, hb, res, hres, h⟩
  · exact ⟨_, by simp [Builtin.delete_, run_underlying ht, hck], h⟩
  · have hf := findV_run (w := w) hd hres
    cases res with
    | none => exact ⟨_, by simp [Builtin.delete_, run_underlying ht, MapKept.run_getObj_map hb, hck, hf, MapKept.run_setObj_map _ hb]; rfl, h⟩
    | some p =>
      obtain ⟨i, v⟩ := p
      exact ⟨_, by simp [Builtin.delete_, run_underlying ht, MapKept.run_getObj_map hb, hck, hf, MapKept.run_setObj_map _ hb]; rfl, h⟩

theorem binOpDen_run {op : BinOp} {t : TypeId} {x y : Value} {φ : Value → Prop} (a b : Operand) {w : World} (h : binOpDen P op t x y φ) :
    ∃ v, ((do eqGuard op t a b x y; binOp op t x y) : Sem Value).run P w = .ok v w ∧ φ v := by
  unfold binOpDen at h
  split at h
  · rename_i k n
    have hg : (eqGuard op t a b (.int k n) y).run P w = .ok () w := by cases op <;> cases y <;> simp [eqGuard]
    simp only [Sem.run_bind, hg, Result.andThen_ok]
    cases y with
    | int k' m =>
      by_cases h1 : op = .shl
      · subst h1
        simp only [binDen] at h
        refine ⟨_, ?_, h.2⟩
        have : ¬ m < 0 := Int.not_lt.2 h.1
        simp [binOp, Op.shift, this, shlI]
      · by_cases h2 : op = .shr
        · subst h2
          simp only [binDen] at h
          refine ⟨_, ?_, h.2⟩
          have : ¬ m < 0 := Int.not_lt.2 h.1
          simp [binOp, Op.shift, this, shrI]
        · have h' : cond (ikEq k k') (intBin op k n m φ) False := by cases op <;> first | exact h | exact absurd rfl h1 | exact absurd rfl h2
          cases hk : ikEq k k' with
          | false => rw [hk] at h'; exact h'.elim
          | true =>
            rw [hk] at h'
            have := ikEq_eq hk
            subst this
            exact intBin_run ⟨h1, h2⟩ h'
    | _ => cases op <;> exact h.elim
  · rename_i s
    have hg : (eqGuard op t a b (.string s) y).run P w = .ok () w := by cases op <;> cases y <;> simp [eqGuard]
    simp only [Sem.run_bind, hg, Result.andThen_ok]
    cases y with
    | string s' =>
      have h : strBin op s s' φ := by cases op <;> exact h
      exact strBin_run h
    | _ => cases op <;> exact h.elim
  · rename_i xs
    split at h
    case h_2 => exact h.elim
    rename_i s ys ho
    cases hg : P.eqGuardType P.depth t with
    | true => rw [hg] at h; exact h.elim
    | false =>
      rw [hg] at h
      simp only [cond_false] at h
      split at h
      case h_2 => exact h.elim
      rename_i r hr
      have he := eqT_run 16 t _ _ r 10000 w hr (by omega)
      refine ⟨_, ?_, h⟩
      simp only [Sem.run_bind, run_eqGuard_agg w op t a b xs ys hg, Result.andThen_ok]
      cases op <;> simp only [isEqOp, Option.some.injEq] at ho <;> first | (cases ho; done) | skip
      · subst ho
        rw [run_eql_struct, he]; rfl
      · subst ho
        rw [run_neq_struct, he]; rfl
  · split at h
    · rename_i ho hd
      have : op = .eql := by cases op <;> first | rfl | (simp [isEqOp] at ho)
      subst this
      obtain ⟨v, hr, hφ⟩ := eqDen_run (w := w) hd h
      exact ⟨_, by simp [eqDen_guard h, (eqDen_binOp h t).1, hr], hφ⟩
    · rename_i ho hd
      have : op = .neq := by cases op <;> first | rfl | (simp [isEqOp] at ho)
      subst this
      obtain ⟨v, hr, hφ⟩ := eqDen_run (w := w) hd h
      exact ⟨_, by simp [eqDen_guard h, (eqDen_binOp h t).2, hr], hφ⟩
    · exact h.elim

theorem unOpDen_run {op : UnOp} {x : Value} {φ : Value → Prop} {w : World} (h : unOpDen op x φ) : ∃ v, (Op.unary op x).run P w = .ok v w ∧ φ v := by
  unfold unOpDen at h
  split at h
  · exact ⟨_, by simp [Op.unary, Op.intArith], h⟩
  · exact ⟨_, by simp [Op.unary], h⟩
  · exact ⟨_, by simp only [Op.unary]; rfl, h⟩
  · exact h.elim

/-! ### Slices -/
theorem optI_some {ρ : Operand → Value} {x : Option Operand} {dflt : Int} {φ : Int → Prop} (h : optI ρ x dflt φ) :
    (x = none ∧ φ dflt) ∨ ∃ o k n, x = some o ∧ ρ o = .int k n ∧ φ n := by
  unfold optI at h
  split at h
  · exact .inl ⟨rfl, h⟩
  · rename_i o
    split at h
    · rename_i k n hv
      exact .inr ⟨o, k, n, rfl, hv, h⟩
    · exact h.elim

theorem run_sliceBound' {k : IntKind} {i : Int} {y : Nat} {c : BoundsCode} {w : World} (h0 : 0 ≤ i) (h1 : i ≤ (y : Int)) :
    (Instr.sliceBound (.int k i) y c).run P w = .ok i.toNat w := by
  simp [Instr.sliceBound, asIntOf, h0, h1]

theorem bounds2 {isS : Bool} {len cap : Nat} {ρ : Operand → Value} {lo hi : Option Operand} {φ : Int → Int → Prop} {w : World} (hlc : isS = true ∨ len = cap)
    (h : optI ρ lo 0 fun l => optI ρ hi (len : Int) fun h => φ l h) (hb : ∀ l h, φ l h → 0 ≤ l ∧ l ≤ h ∧ h ≤ (cap : Int)) :
    ∃ l h, (Instr.sliceBounds isS len cap (lo.map ρ) (hi.map ρ) none).run P w = .ok (l.toNat, h.toNat, cap) w ∧ φ l h := by
  rcases optI_some h with ⟨e1, h1⟩ | ⟨o, k, l, e1, ho, h1⟩
  · subst e1
    rcases optI_some h1 with ⟨e2, h2⟩ | ⟨o', k', h', e2, ho', h2⟩
    · subst e2
      exact ⟨_, _, by simp [Instr.sliceBounds], h2⟩
    · subst e2
      obtain ⟨a1, a2, a3⟩ := hb _ _ h2
      exact ⟨_, _, by simp [Instr.sliceBounds, ho', run_sliceBound' (Int.le_trans a1 a2) a3], h2⟩
  · subst e1
    rcases optI_some h1 with ⟨e2, h2⟩ | ⟨o', k', h', e2, ho', h2⟩
    · subst e2
      obtain ⟨a1, a2, a3⟩ := hb _ _ h2
      exact ⟨_, _, by simp [Instr.sliceBounds, ho, run_sliceBound' a1 a2], h2⟩
    · subst e2
      obtain ⟨a1, a2, a3⟩ := hb _ _ h2
      have a4 : l ≤ ((h'.toNat : Nat) : Int) := by omega
      exact ⟨_, _, by simp [Instr.sliceBounds, ho, ho', run_sliceBound' (Int.le_trans a1 a2) a3, run_sliceBound' a1 a4], h2⟩

theorem bounds3 {isS : Bool} {len cap : Nat} {ρ : Operand → Value} {lo : Option Operand} {oh om : Operand} {φ : Int → Int → Int → Prop} {w : World}
    (h : optI ρ lo 0 fun l => optI ρ (some oh) 0 fun h => optI ρ (some om) 0 fun m => φ l h m) (hb : ∀ l h m, φ l h m → 0 ≤ l ∧ l ≤ h ∧ h ≤ m ∧ m ≤ (cap : Int)) :
    ∃ l h m, (Instr.sliceBounds isS len cap (lo.map ρ) (some (ρ oh)) (some (ρ om))).run P w = .ok (l.toNat, h.toNat, m.toNat) w ∧ φ l h m := by
  have key : ∀ l, (optI ρ (some oh) 0 fun h => optI ρ (some om) 0 fun m => φ l h m) → ∃ kh h km m, ρ oh = .int kh h ∧ ρ om = .int km m ∧ φ l h m := by
    intro l hh
    rcases optI_some hh with ⟨e2, _⟩ | ⟨o', k', h', e2, ho', h2⟩
    · cases e2
    · cases e2
      rcases optI_some h2 with ⟨e3, _⟩ | ⟨o'', k'', h'', e3, ho'', h3⟩
      · cases e3
      · cases e3
        exact ⟨_, _, _, _, ho', ho'', h3⟩
  rcases optI_some h with ⟨e1, h1⟩ | ⟨o, k, l, e1, ho, h1⟩
  · subst e1
    obtain ⟨kh, h', km, m, ho, hm, h2⟩ := key _ h1
    obtain ⟨a1, a2, a3, a4⟩ := hb _ _ _ h2
    have b1 : (0 : Int) ≤ m := by omega
    have b3 : h' ≤ ((m.toNat : Nat) : Int) := by omega
    exact ⟨_, _, _, by simp [Instr.sliceBounds, ho, hm, run_sliceBound' b1 a4, run_sliceBound' a2 b3], h2⟩
  · subst e1
    obtain ⟨kh, h', km, m, ho', hm, h2⟩ := key _ h1
    obtain ⟨a1, a2, a3, a4⟩ := hb _ _ _ h2
    have b1 : (0 : Int) ≤ m := by omega
    have b2 : (0 : Int) ≤ h' := by omega
    have b3 : h' ≤ ((m.toNat : Nat) : Int) := by omega
    have b4 : l ≤ ((h'.toNat : Nat) : Int) := by omega
    exact ⟨_, _, _, by simp [Instr.sliceBounds, ho, ho', hm, run_sliceBound' b1 a4, run_sliceBound' b2 b3, run_sliceBound' a1 b4], h2⟩

theorem sliceDen_run {t : TypeId} {x : Value} {ρ : Operand → Value} {lo hi mx : Option Operand} {φ : Value → Prop} {w : World} (h : sliceDen P t x ρ lo hi mx φ) :
    ∃ v, (Instr.sliceAt t x (lo.map ρ) (hi.map ρ) (mx.map ρ)).run P w = .ok v w ∧ φ v := by
  unfold sliceDen at h
  split at h
  · rename_i s ht
    split at h
    · obtain ⟨l, h', hr, h0⟩ := bounds2 (P := P) (isS := false) (len := s.size) (cap := s.size) (w := w) (.inr rfl) h (fun l h' hh => ⟨hh.1, hh.2.1, hh.2.2.1⟩)
      exact ⟨_, by simp [Instr.sliceAt, Instr.slice, run_underlying ht, hr], h0.2.2.2⟩
    · exact h.elim
  · rename_i e a n c ht
    split at h
    · rename_i size hs
      split at h
      · obtain ⟨l, h', hr, h0⟩ := bounds2 (P := P) (isS := true) (len := n) (cap := c) (w := w) (.inl rfl) h (fun l h' hh => ⟨hh.1, hh.2.1, hh.2.2.1⟩)
        exact ⟨_, by simp [Instr.sliceAt, Instr.slice, run_underlying ht, hr, sizeOf?_run hs, SliceV.v, subA], h0.2.2.2⟩
      · rename_i m
        split at h
        · rename_i hi'
          obtain ⟨l, h', m', hr, h0⟩ := bounds3 (P := P) (isS := true) (len := n) (cap := c) (w := w) h (fun l h' m' hh => ⟨hh.1, hh.2.1, hh.2.2.1, hh.2.2.2.1⟩)
          exact ⟨_, by simp [Instr.sliceAt, Instr.slice, run_underlying ht, hr, sizeOf?_run hs, SliceV.v, subA], h0.2.2.2.2⟩
        · exact h.elim
    · exact h.elim
  · rename_i n e a ht
    split at h
    · rename_i size hs
      split at h
      · obtain ⟨l, h', hr, h0⟩ := bounds2 (P := P) (isS := false) (len := n) (cap := n) (w := w) (.inr rfl) h (fun l h' hh => ⟨hh.1, hh.2.1, hh.2.2.1⟩)
        exact ⟨_, by simp [Instr.sliceAt, Instr.sureAddr, run_underlying ht, hr, sizeOf?_run hs, SliceV.v], h0.2.2.2⟩
      · exact h.elim
    · exact h.elim
  · exact h.elim
end
end Gp
