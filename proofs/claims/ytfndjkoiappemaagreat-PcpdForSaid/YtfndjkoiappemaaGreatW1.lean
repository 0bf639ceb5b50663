import Derived.Test.YtfndjkoiappemaaGreatW0
import Derived.Laws.StructEq
import Derived.MapKept
import Derived.WideKeyRuns
import Derived.ChangeKeysEq
import Derived.Lib.ConvBytes
section
namespace Gp
open Go
section
variable {P : Program}
theorem OW {d : TypeDesc} {x y : Value} {φ : Bool -> Prop} {t : TypeId} {w : World} (ht : P.underlying t = some d) (h : EL d x y φ) :
    ∃ b, (Op.equal t x y).run P w = .ok b w ∧ φ b := by
  have key : ∀ n, ∃ b, (Op.equalIn (n + 1) t x y).run P w = .ok b w ∧ φ b := by
    intro n
    unfold EL at h
    split at h
    · exact ⟨_, by simp [Op.equalIn, run_underlying ht], h⟩
    · rename_i q
      refine ⟨_, ?_, h⟩
      cases q <;> simp [Op.equalIn, run_underlying ht]
    · rename_i q _ _ _ _
      refine ⟨_, ?_, h⟩
      cases q <;> simp [Op.equalIn, run_underlying ht]
    · rename_i q
      refine ⟨_, ?_, h⟩
      cases q <;> simp [Op.equalIn, run_underlying ht]
    · exact h.elim
  exact key 9999
theorem Jb {d : TypeDesc} {x y : Value} {φ : Bool -> Prop} (h : EL d x y φ) (op : BinOp) (t : TypeId) (a b : Operand) (w : World) : (eqGuard op t a b x y).run P w = .ok () w := by
  unfold EL at h
  split at h <;> first | exact h.elim | (cases op <;> simp [eqGuard])
theorem WW {op : BinOp} {t : TypeId} {x y : Value} {φ : Value -> Prop} (a : Operand) {w : World} (h : TD P op t x y φ) :
    ∃ v, (do eqGuard op t a (.const .nilIface) x y; binOp op t x y : Sem Value).run P w = .ok v w ∧ φ v := by
  unfold TD at h
  split at h
  · rename_i s ms ho ht
    have key : ∀ n, (Op.equalIn (n + 1) t .nilIface .nilIface).run P w = .ok true w := fun n => by simp [Op.equalIn, run_underlying ht]
    have e : (Op.equal t .nilIface .nilIface).run P w = .ok true w := key 9999
    cases op <;> simp only [C_, reduceCtorEq, Option.some.injEq] at ho
    all_goals subst ho
    · exact ⟨.bool true, by simp [eqGuard, show binOp .eql t .nilIface .nilIface = (do pure (.bool (<- Op.equal t .nilIface .nilIface))) from rfl, e], h⟩
    · exact ⟨.bool false, by simp [eqGuard, show binOp .neq t .nilIface .nilIface = (do pure (.bool (!(<- Op.equal t .nilIface .nilIface)))) from rfl, e], h⟩
  · rename_i s ms t' v' ho ht
    have key : ∀ n, (Op.equalIn (n + 1) t (.iface t' v') .nilIface).run P w = .ok false w := fun n => by simp [Op.equalIn, run_underlying ht]
    have e : (Op.equal t (.iface t' v') .nilIface).run P w = .ok false w := key 9999
    cases op <;> simp only [C_, reduceCtorEq, Option.some.injEq] at ho
    all_goals subst ho
    · exact ⟨.bool false, by simp [eqGuard, show binOp .eql t (.iface t' v') .nilIface = (do pure (.bool (<- Op.equal t (.iface t' v') .nilIface))) from rfl, e], h⟩
    · exact ⟨.bool true, by simp [eqGuard, show binOp .neq t (.iface t' v') .nilIface = (do pure (.bool (!(<- Op.equal t (.iface t' v') .nilIface)))) from rfl, e], h⟩
  · exact h.elim
theorem Ju {d : TypeDesc} {x y : Value} {φ : Bool -> Prop} (h : EL d x y φ) (t : TypeId) :
    binOp .eql t x y = (do pure (.bool (<- Op.equal t x y))) ∧ binOp .neq t x y = (do pure (.bool (!(<- Op.equal t x y)))) := by
  unfold EL at h
  split at h <;> first | exact h.elim | exact ⟨rfl, rfl⟩
theorem vM {w : World} {t : TypeId} {d : TypeDesc} {size off : Nat} {cs : Array Value} {v : Value} (hd : P.underlying t = some d) (hs : dI P t = some size) (h : OV d size off cs.toList = some v) :
    (part t cs off).run P w = .ok v w := by
  obtain ⟨v', hr, hv⟩ := Le (w := w) (cs := cs) (off := off) (φ := fun v' => v' = v) hd hs (by
    unfold OV at h
    unfold partOf
    cases hg : B_ d with
    | true => rw [hg] at h; simp only [cond_true, Option.some.injEq] at h ⊢; exact h
    | false => rw [hg] at h; simp only [cond_false] at h ⊢; rw [h])
  rw [hr, hv]
theorem Dy {b : Bool} {o : Option Bool} {r : Bool} (h : aap b o = some r) : ∃ r', o = some r' ∧ r = (b && r') := by
  cases o with
  | none => cases h
  | some r' => exact ⟨r', rfl, by simpa [aap] using h.symm⟩
theorem Px : ∀ (n : Nat) (t : TypeId) (x y : Value) (b : Bool) (m : Nat) (w : World), xQ P n t x y = some b -> n <= m -> (Op.equalIn m t x y).run P w = .ok b w := by
  intro n
  induction n with
  | zero => intro t x y b m w h; cases h
  | succ n ih =>
    intro t x y b m w h hm
    obtain ⟨m, rfl⟩ : ∃ m', m = m' + 1 := ⟨m - 1, by omega⟩
    unfold xQ at h
    split at h
    · rename_i hu
      rw [run_equalIn_bool' w m t _ _ hu]
      cases h; rfl
    · rename_i k0 k a k' c hu
      cases hk : EZ k k' with
      | false => rw [hk] at h; cases h
      | true =>
        rw [hk] at h
        have := GN hk
        subst this
        rw [run_equalIn_int w m t k k0 _ _ hu]
        cases h; rfl
    · rename_i hu
      rw [run_equalIn_string w m t _ _ hu]
      cases h; rfl
    · rename_i fs xs ys hu
      cases hp : P.stoodInHeld t with
      | true => rw [hp] at h; cases h
      | false =>
        rw [hp] at h
        simp only [cond_false] at h
        have hfs : P.fieldsOf t = fs := by simp [Program.fieldsOf, hu]
        rw [run_equalIn_struct w m t xs ys (by rw [hfs]; exact hu) hp, hfs]
        generalize fs.toList = l at h
        clear hfs hu
        induction l generalizing b with
        | nil => simp only [YQ, Option.some.injEq] at h; subst h; rfl
        | cons fd l ihl =>
          simp only [YQ] at h
          cases hnm : (fd.name == "_") with
          | true => rw [hnm] at h; cases h
          | false =>
            rw [hnm] at h
            simp only [cond_false] at h
            split at h
            case h_2 => cases h
            rename_i d size hd hs
            split at h
            case h_2 => cases h
            rename_i u v hu hv
            split at h
            case h_2 => cases h
            rename_i r hr
            obtain ⟨r', hr', rfl⟩ := Dy h
            have hne : fd.name ≠ "_" := by simpa using hnm
            simp only [Op.eqFields, hne, ne_eq, not_false_eq_true, if_true, Sem.run_bind, vM hd hs hu, vM hd hs hv, Result.andThen_ok, ih _ _ _ _ m w hr (by omega)]
            cases r with
            | true => simp only [Bool.not_true, Bool.false_eq_true, if_false, Bool.true_and]; exact ihl _ hr'
            | false => simp
    · rename_i n' e xs ys hu
      split at h
      case h_2 => cases h
      rename_i de size hd hs
      obtain ⟨i, hi, hsz⟩ : ∃ i, P.info? e = some i ∧ i.size = size := by
        unfold dI at hs
        split at hs
        · rename_i i hi; exact ⟨i, hi, by simpa using hs⟩
        · cases hs
      have hc : P.cellsOf e = size := by simp [Program.cellsOf, hi, hsz]
      rw [run_equalIn_array w m xs ys hu hi, hc, List.range_eq_range']
      generalize 0 = j at h ⊢
      clear hu
      induction n' generalizing b j with
      | zero => simp only [Yo, Option.some.injEq] at h; subst h; rfl
      | succ n' ihn =>
        simp only [Yo] at h
        split at h
        case h_2 => cases h
        rename_i u v hu hv
        split at h
        case h_2 => cases h
        rename_i r hr
        obtain ⟨r', hr', rfl⟩ := Dy h
        simp only [List.range'_succ, Op.eqItems, Sem.run_bind, vM hd hs hu, vM hd hs hv, Result.andThen_ok, ih _ _ _ _ m w hr (by omega)]
        cases r with
        | true => simp only [Bool.not_true, Bool.false_eq_true, if_false, Bool.true_and]; exact ihn _ _ hr'
        | false => simp
    · cases h
theorem ZX {n : Nat} {t : TypeId} {x y : Value} {b : Bool} (h : xQ P n t x y = some b) : ∃ d, P.underlying t = some d := by
  cases n with
  | zero => cases h
  | succ n =>
    unfold xQ at h
    split at h <;> first | exact ⟨_, by assumption⟩ | cases h
theorem EI {n : Nat} {t : TypeId} {d : TypeDesc} {x y : Value} {b : Bool} (hd : P.underlying t = some d) (h : xQ P n t x y = some b) : Instr.sameNow d x y = some b ∨ Instr.sameNow d x y = none := by
  cases n with
  | zero => cases h
  | succ n =>
    unfold xQ at h
    split at h
    · rename_i hu
      rw [hd] at hu; cases hu
      cases h
      exact .inl rfl
    · rename_i k0 k a k' c hu
      rw [hd] at hu; cases hu
      cases hk : EZ k k' with
      | false => rw [hk] at h; cases h
      | true =>
        rw [hk] at h
        have := GN hk
        subst this
        cases h
        exact .inl (by simp [Instr.sameNow])
    · rename_i hu
      rw [hd] at hu; cases hu
      cases h
      exact .inl (by simp [Instr.sameNow, strEq, beq_toListBytes])
    · rename_i hu
      rw [hd] at hu; cases hu
      exact .inr rfl
    · rename_i hu
      rw [hd] at hu; cases hu
      exact .inr rfl
    · cases h
theorem Om {kt : TypeId} {d : TypeDesc} {key : Value} (hd : P.underlying kt = some d) : ∀ (es : List MapEntry) (i : Nat) (res : Option (Nat × Value)), oq P kt key es i = some res -> Instr.findNow d key es i = some res ∨ Instr.findNow d key es i = none := by
  intro es
  induction es with
  | nil => intro i res h; simp only [oq, Option.some.injEq] at h; subst h; exact .inl rfl
  | cons e es ih =>
    intro i res h
    simp only [oq] at h
    split at h
    · rename_i he
      cases h
      rcases EI hd he with h1 | h1
      · exact .inl (by simp [Instr.findNow, h1])
      · exact .inr (by simp [Instr.findNow, h1])
    · rename_i he
      rcases EI hd he with h1 | h1
      · rcases ih _ _ h with h2 | h2
        · exact .inl (by simp [Instr.findNow, h1, h2])
        · exact .inr (by simp [Instr.findNow, h1, h2])
      · exact .inr (by simp [Instr.findNow, h1])
    · cases h
theorem Nl {kt : TypeId} {key : Value} {w : World} : ∀ (es : List MapEntry) (i : Nat) (res : Option (Nat × Value)), oq P kt key es i = some res -> (Instr.findAsking kt key es i).run P w = .ok res w := by
  intro es
  induction es with
  | nil => intro i res h; simp only [oq, Option.some.injEq] at h; subst h; rfl
  | cons e es ih =>
    intro i res h
    simp only [oq] at h
    split at h
    · rename_i he
      cases h
      simp [Instr.findAsking, Op.equal, Op.maxDepth, Px 16 kt _ _ _ 10000 w he (by omega)]
    · rename_i he
      simp [Instr.findAsking, Op.equal, Op.maxDepth, Px 16 kt _ _ _ 10000 w he (by omega), ih _ _ h]
    · cases h
theorem tC {kt : TypeId} {d : TypeDesc} {key : Value} {es : List MapEntry} {res : Option (Nat × Value)} {w : World} (hd : P.underlying kt = some d) (h : oq P kt key es 0 = some res) : (Instr.findKey kt key es).run P w = .ok res w := by
  rcases Om hd es 0 res h with h1 | h1
  · simp [Instr.findKey, run_underlying hd, h1]
  · simp [Instr.findKey, run_underlying hd, h1, Nl es 0 res h]
theorem qR : ∀ (n : Nat) (t : TypeId) (x y : Value) (b : Bool) (m : Nat) (em : Bool) (w : World), xQ P n t x y = some b -> n <= m -> (Instr.checkKey em m t x).run P w = .ok () w := by
  intro n
  induction n with
  | zero => intro t x y b m em w h; cases h
  | succ n ih =>
    intro t x y b m em w h hm
    obtain ⟨m, rfl⟩ : ∃ m', m = m' + 1 := ⟨m - 1, by omega⟩
    unfold xQ at h
    split at h
    · rename_i hu; simp [Instr.checkKey, run_underlying hu]
    · rename_i hu; simp [Instr.checkKey, run_underlying hu]
    · rename_i hu; simp [Instr.checkKey, run_underlying hu]
    · rename_i fs xs ys hu
      cases hp : P.stoodInHeld t with
      | true => rw [hp] at h; cases h
      | false =>
        rw [hp] at h
        simp only [cond_false] at h
        simp only [Instr.checkKey, Sem.run_bind, run_underlying hu, Result.andThen_ok]
        rw [<- Array.forIn_toList]
        generalize fs.toList = l at h
        clear hu
        induction l generalizing b with
        | nil => simp
        | cons fd l ihl =>
          simp only [YQ] at h
          cases hnm : (fd.name == "_") with
          | true => rw [hnm] at h; cases h
          | false =>
            rw [hnm] at h
            simp only [cond_false] at h
            split at h
            case h_2 => cases h
            rename_i d size hd hs
            split at h
            case h_2 => cases h
            rename_i u v hu hv
            split at h
            case h_2 => cases h
            rename_i r hr
            obtain ⟨r', hr', rfl⟩ := Dy h
            have hne : fd.name ≠ "_" := by simpa using hnm
            have := ihl _ hr'
            simp only [List.forIn_cons, hne, ne_eq, not_false_eq_true, if_true, Sem.run_bind, vM hd hs hu, Result.andThen_ok, ih _ _ _ _ m em w hr (by omega), Sem.run_pure]
            exact this
    · rename_i n' e xs ys hu
      split at h
      case h_2 => cases h
      rename_i de size hd hs
      simp only [Instr.checkKey, Sem.run_bind, run_underlying hu, Result.andThen_ok]
      simp only [Std.Legacy.Range.forIn_eq_forIn_range', Std.Legacy.Range.size, Nat.sub_zero, Nat.add_one_sub_one, Nat.div_one]
      generalize 0 = j at h ⊢
      clear hu
      induction n' generalizing b j with
      | zero => simp
      | succ n' ihn =>
        simp only [Yo] at h
        split at h
        case h_2 => cases h
        rename_i u v hu hv
        split at h
        case h_2 => cases h
        rename_i r hr
        obtain ⟨r', hr', rfl⟩ := Dy h
        have := ihn _ _ hr'
        simp only [List.range'_succ, List.forIn_cons, Sem.run_bind, dK hs, Result.andThen_ok, vM hd hs hu, ih _ _ _ _ m em w hr (by omega), Sem.run_pure]
        exact this
    · cases h
theorem ED {v : Value} (h : Y2 v = true) (n : Nat) : Instr.sameBits n v v = true := by
  cases v <;> first | (cases h; done) | simp [Instr.sameBits, MapKept.bytes_beq]
theorem AU {v : Value} (h : PK v = true) (n : Nat) : Instr.sameBits (n + 1) v v = true := by
  unfold PK at h
  split at h
  · rename_i cs
    simp only [Instr.sameBits, beq_self_eq_true, Bool.true_and, List.all_eq_true]
    simp only [List.all_eq_true] at h
    rintro ⟨x, y⟩ hxy
    have : x = y := by
      obtain ⟨i, hi⟩ := List.getElem?_of_mem hxy
      simp [List.getElem?_zip_eq_some] at hi
      have := hi.1.symm.trans hi.2
      simpa using this
    subst this
    exact ED (h x (List.of_mem_zip hxy).1) n
  · exact ED h _
theorem uw {kt : TypeId} {key : Value} (h : iJ P kt key = true) : PK key = true ∧ ∃ d b, P.underlying kt = some d ∧ xQ P 16 kt key key = some b := by
  simp only [iJ, Bool.and_eq_true, Option.isSome_iff_exists] at h
  obtain ⟨h1, b, hb⟩ := h
  obtain ⟨d, hd⟩ := ZX hb
  exact ⟨h1, d, b, hd, hb⟩
theorem Gu {k : Kind} {v : Value} {φ : k.T -> Prop} (h : k.dec v φ) : ∃ x, v = k.enc x ∧ φ x := by
  cases k <;> cases v <;> first
    | exact h.elim
    | exact ⟨_, rfl, h⟩
    | skip
  case int.int k k' n =>
    simp only [Kind.dec] at h
    cases hb : EZ k k' with
    | false => rw [hb] at h; exact h.elim
    | true =>
      rw [hb] at h
      have := GN hb
      subst this
      exact ⟨n, rfl, h⟩
theorem tK {t : TypeId} {z : Value} {w : World} (h : xY P t = some z) : (zeroValue t).run P w = .ok z w := by
  unfold xY at h
  split at h
  · rename_i i hi; simp [zeroValue, run_typeInfo hi, h]
  · cases h
theorem U5 {t kt et : TypeId} {k : Kind} {r : Option Nat} {key zero : Value} {w : World} {K : k.T -> Prop} (ht : P.underlying t = some (.map kt et)) (hz : xY P et = some zero) (h : oL P kt k r key zero w K) :
    ∃ x, (Instr.lookup t (.map r) key false).run P w = .ok (k.enc x) w ∧ K x := by
  obtain ⟨hk, h⟩ := h
  obtain ⟨_, d, b', hd, hb'⟩ := uw hk
  have hck : ∀ em, (Instr.checkKey em 10000 kt key).run P w = .ok () w := fun em => qR 16 kt key key b' 10000 em w hb' (by omega)
  rcases h with ⟨rfl, h⟩ | ⟨b, es, clock, rfl, hb, res, hres, h⟩
  · obtain ⟨x, hx, h⟩ := Gu h
    refine ⟨x, ?_, h⟩
    have hf : (Instr.findKey kt key []).run P w = .ok none w := tC hd rfl
    simp [Instr.lookup, run_underlying ht, hck, hf, tK hz, hx]
  · obtain ⟨x, hx, h⟩ := Gu h
    refine ⟨x, ?_, h⟩
    have hf := tC (w := w) hd hres
    cases res with
    | none => simp [Instr.lookup, run_underlying ht, MapKept.run_getObj_map hb, hck, hf, tK hz, <- hx]
    | some p =>
      obtain ⟨i, v⟩ := p
      simp [Instr.lookup, run_underlying ht, MapKept.run_getObj_map hb, hck, hf, <- hx]
theorem Jm {t kt et : TypeId} {r : Option Nat} {key zero : Value} {w : World} {K : Value -> Bool -> Prop} (ht : P.underlying t = some (.map kt et)) (hz : xY P et = some zero) (h : xG P kt r key zero w K) (ok : Bool) :
    ∃ v b, (Instr.lookup t (.map r) key ok).run P w = .ok (if ok = true then .tuple #[v, .bool b] else v) w ∧ K v b := by
  obtain ⟨hk, h⟩ := h
  obtain ⟨_, d, b', hd, hb'⟩ := uw hk
  have hck : ∀ em, (Instr.checkKey em 10000 kt key).run P w = .ok () w := fun em => qR 16 kt key key b' 10000 em w hb' (by omega)
  rcases h with ⟨rfl, h⟩ | ⟨b, es, clock, rfl, hb, res, hres, h⟩
  · refine ⟨_, _, ?_, h⟩
    have hf : (Instr.findKey kt key []).run P w = .ok none w := tC hd rfl
    simp [Instr.lookup, run_underlying ht, hck, hf, tK hz]
  · have hf := tC (w := w) hd hres
    cases res with
    | none =>
      refine ⟨_, _, ?_, h⟩
      simp [Instr.lookup, run_underlying ht, MapKept.run_getObj_map hb, hck, hf, tK hz]
    | some p =>
      obtain ⟨i, v⟩ := p
      refine ⟨_, _, ?_, h⟩
      simp [Instr.lookup, run_underlying ht, MapKept.run_getObj_map hb, hck, hf]
theorem Vd {t kt et : TypeId} {r : Option Nat} {key val : Value} {w : World} {K : World -> Prop} (ht : P.underlying t = some (.map kt et)) (h : tH P kt r key val w K) :
    ∃ w', (Instr.mapUpdate t (.map r) key val).run P w = .ok () w' ∧ K w' := by
  obtain ⟨hk, b, es, clock, rfl, hb, res, hres, h⟩ := h
  obtain ⟨hp, d, b', hd, hb'⟩ := uw hk
  have hck : ∀ em, (Instr.checkKey em 10000 kt key).run P w = .ok () w := fun em => qR 16 kt key key b' 10000 em w hb' (by omega)
  have hf := tC (w := w) hd hres
  cases res with
  | none => exact ⟨_, by simp [Instr.mapUpdate, run_underlying ht, MapKept.run_getObj_map hb, hck, hf, MapKept.run_setObj_map _ hb]; rfl, h⟩
  | some p =>
    obtain ⟨i, v⟩ := p
    obtain ⟨⟨e, he, hke⟩, h⟩ := h
    have hst : (Instr.keyThatStays e.key key).run P w = .ok key w := by
      rw [hke]; simp [Instr.keyThatStays, AU hp]
    exact ⟨_, by simp [Instr.mapUpdate, run_underlying ht, MapKept.run_getObj_map hb, hck, hf, he, hst, MapKept.run_setObj_map _ hb]; rfl, h⟩
theorem Us {t kt et : TypeId} {r : Option Nat} {key zero : Value} {w : World} {K : Value -> Int -> World -> Prop} (ht : P.underlying t = some (.map kt et)) (hz : xY P et = some zero) (h : LY P kt r key zero w K) :
    ∃ v n w', (Instr.mapEntry t (.map r) key).run P w = .ok (.tuple #[v, .int .i64 n]) w' ∧ K v n w' := by
  obtain ⟨hk, b, es, clock, rfl, hb, res, hres, h⟩ := h
  obtain ⟨hp, d, b', hd, hb'⟩ := uw hk
  have hck : ∀ em, (Instr.checkKey em 10000 kt key).run P w = .ok () w := fun em => qR 16 kt key key b' 10000 em w hb' (by omega)
  have hf := tC (w := w) hd hres
  cases res with
  | none => exact ⟨_, _, _, by simp [Instr.mapEntry, run_underlying ht, MapKept.run_getObj_map hb, hck, hf, tK hz, MapKept.run_setObj_map _ hb, goInt]; rfl, h⟩
  | some p =>
    obtain ⟨i, v⟩ := p
    obtain ⟨e, he, hke, h⟩ := h
    have hst : (Instr.keyThatStays e.key key).run P w = .ok key w := by
      rw [hke]; simp [Instr.keyThatStays, AU hp]
    exact ⟨_, _, _, by simp [Instr.mapEntry, run_underlying ht, MapKept.run_getObj_map hb, hck, hf, he, hst, MapKept.run_setObj_map _ hb, goInt]; rfl, h⟩
theorem Wx {t : TypeId} {r : Option Nat} {k : IntKind} {n : Int} {val : Value} {w : World} {K : World -> Prop} (h : Td r n val w K) :
    ∃ w', (Instr.entryStore t (.map r) (.int k n) val).run P w = .ok () w' ∧ K w' := by
  obtain ⟨b, es, clock, i, rfl, hb, hi, h⟩ := h
  exact ⟨_, by simp [Instr.entryStore, MapKept.run_getObj_map hb, asInt, asIntOf, hi, MapKept.run_setObj_map _ hb]; rfl, h⟩
theorem UW {t kt et t' ty : TypeId} {r : Option Nat} {key : Value} {w : World} {K : World -> Prop} (ht : P.underlying t = some (.map kt et)) (h : zV P kt r key w K) :
    ∃ w', (Builtin.delete_ ⟨[t, t']⟩ ty ⟨[.map r, key]⟩).run P w = .ok (.tuple #[]) w' ∧ K w' := by
  obtain ⟨hk, h⟩ := h
  obtain ⟨_, d, b', hd, hb'⟩ := uw hk
  have hck : ∀ em, (Instr.checkKey em 10000 kt key).run P w = .ok () w := fun em => qR 16 kt key key b' 10000 em w hb' (by omega)
  rcases h with ⟨rfl, h⟩ | ⟨b, es, clock, rfl, hb, res, hres, h⟩
  · exact ⟨_, by simp [Builtin.delete_, run_underlying ht, hck], h⟩
  · have hf := tC (w := w) hd hres
    cases res with
    | none => exact ⟨_, by simp [Builtin.delete_, run_underlying ht, MapKept.run_getObj_map hb, hck, hf, MapKept.run_setObj_map _ hb]; rfl, h⟩
    | some p =>
      obtain ⟨i, v⟩ := p
      exact ⟨_, by simp [Builtin.delete_, run_underlying ht, MapKept.run_getObj_map hb, hck, hf, MapKept.run_setObj_map _ hb]; rfl, h⟩
theorem Qb {op : BinOp} {t : TypeId} {x y : Value} {φ : Value -> Prop} (a b : Operand) {w : World} (h : BO P op t x y φ) :
    ∃ v, ((do eqGuard op t a b x y; binOp op t x y) : Sem Value).run P w = .ok v w ∧ φ v := by
  unfold BO at h
  split at h
  · rename_i k n
    have hg : (eqGuard op t a b (.int k n) y).run P w = .ok () w := by cases op <;> cases y <;> simp [eqGuard]
    simp only [Sem.run_bind, hg, Result.andThen_ok]
    cases y with
    | int k' m =>
      by_cases h1 : op = .shl
      · subst h1
        simp only [ER] at h
        refine ⟨_, ?_, h.2⟩
        have : ¬ m < 0 := Int.not_lt.2 h.1
        simp [binOp, Op.shift, this, Vt]
      · by_cases h2 : op = .shr
        · subst h2
          simp only [ER] at h
          refine ⟨_, ?_, h.2⟩
          have : ¬ m < 0 := Int.not_lt.2 h.1
          simp [binOp, Op.shift, this, gG]
        · have h' : cond (EZ k k') (FX op k n m φ) False := by cases op <;> first | exact h | exact absurd rfl h1 | exact absurd rfl h2
          cases hk : EZ k k' with
          | false => rw [hk] at h'; exact h'.elim
          | true =>
            rw [hk] at h'
            have := GN hk
            subst this
            exact Uo ⟨h1, h2⟩ h'
    | _ => cases op <;> exact h.elim
  · rename_i s
    have hg : (eqGuard op t a b (.string s) y).run P w = .ok () w := by cases op <;> cases y <;> simp [eqGuard]
    simp only [Sem.run_bind, hg, Result.andThen_ok]
    cases y with
    | string s' =>
      have h : E_ op s s' φ := by cases op <;> exact h
      exact Vl h
    | _ => cases op <;> exact h.elim
  · rename_i xs
    split at h
    case h_2 => exact h.elim
    rename_i s ys ho
    cases hg : P.eqGuardType P.depth t with
    | true => rw [hg] at h; exact h.elim
    | false =>
      rw [hg] at h
      simp only [cond_false] at h
      split at h
      case h_2 => exact h.elim
      rename_i r hr
      have he := Px 16 t _ _ r 10000 w hr (by omega)
      refine ⟨_, ?_, h⟩
      simp only [Sem.run_bind, run_eqGuard_agg w op t a b xs ys hg, Result.andThen_ok]
      cases op <;> simp only [C_, Option.some.injEq] at ho <;> first | (cases ho; done) | skip
      · subst ho
        rw [run_eql_struct, he]; rfl
      · subst ho
        rw [run_neq_struct, he]; rfl
  · split at h
    · rename_i ho hd
      have : op = .eql := by cases op <;> first | rfl | (simp [C_] at ho)
      subst this
      obtain ⟨v, hr, hφ⟩ := OW (w := w) hd h
      exact ⟨_, by simp [Jb h, (Ju h t).1, hr], hφ⟩
    · rename_i ho hd
      have : op = .neq := by cases op <;> first | rfl | (simp [C_] at ho)
      subst this
      obtain ⟨v, hr, hφ⟩ := OW (w := w) hd h
      exact ⟨_, by simp [Jb h, (Ju h t).2, hr], hφ⟩
    · exact h.elim
theorem SL {op : UnOp} {x : Value} {φ : Value -> Prop} {w : World} (h : Gq op x φ) : ∃ v, (Op.unary op x).run P w = .ok v w ∧ φ v := by
  unfold Gq at h
  split at h
  · exact ⟨_, by simp [Op.unary, Op.intArith], h⟩
  · exact ⟨_, by simp [Op.unary], h⟩
  · exact ⟨_, by simp only [Op.unary]; rfl, h⟩
  · exact h.elim
theorem vO {ρ : Operand -> Value} {x : Option Operand} {dflt : Int} {φ : Int -> Prop} (h : uK ρ x dflt φ) :
    (x = none ∧ φ dflt) ∨ ∃ o k n, x = some o ∧ ρ o = .int k n ∧ φ n := by
  unfold uK at h
  split at h
  · exact .inl ⟨rfl, h⟩
  · rename_i o
    split at h
    · rename_i k n hv
      exact .inr ⟨o, k, n, rfl, hv, h⟩
    · exact h.elim
theorem fA {k : IntKind} {i : Int} {y : Nat} {c : BoundsCode} {w : World} (h0 : 0 <= i) (h1 : i <= (y : Int)) :
    (Instr.sliceBound (.int k i) y c).run P w = .ok i.toNat w := by
  simp [Instr.sliceBound, asIntOf, h0, h1]
theorem Qk {isS : Bool} {len cap : Nat} {ρ : Operand -> Value} {lo hi : Option Operand} {φ : Int -> Int -> Prop} {w : World} (hlc : isS = true ∨ len = cap)
    (h : uK ρ lo 0 fun l => uK ρ hi (len : Int) fun h => φ l h) (hb : ∀ l h, φ l h -> 0 <= l ∧ l <= h ∧ h <= (cap : Int)) :
    ∃ l h, (Instr.sliceBounds isS len cap (lo.map ρ) (hi.map ρ) none).run P w = .ok (l.toNat, h.toNat, cap) w ∧ φ l h := by
  rcases vO h with ⟨e1, h1⟩ | ⟨o, k, l, e1, ho, h1⟩
  · subst e1
    rcases vO h1 with ⟨e2, h2⟩ | ⟨o', k', h', e2, ho', h2⟩
    · subst e2
      exact ⟨_, _, by simp [Instr.sliceBounds], h2⟩
    · subst e2
      obtain ⟨a1, a2, a3⟩ := hb _ _ h2
      exact ⟨_, _, by simp [Instr.sliceBounds, ho', fA (Int.le_trans a1 a2) a3], h2⟩
  · subst e1
    rcases vO h1 with ⟨e2, h2⟩ | ⟨o', k', h', e2, ho', h2⟩
    · subst e2
      obtain ⟨a1, a2, a3⟩ := hb _ _ h2
      exact ⟨_, _, by simp [Instr.sliceBounds, ho, fA a1 a2], h2⟩
    · subst e2
      obtain ⟨a1, a2, a3⟩ := hb _ _ h2
      have a4 : l <= ((h'.toNat : Nat) : Int) := by omega
      exact ⟨_, _, by simp [Instr.sliceBounds, ho, ho', fA (Int.le_trans a1 a2) a3, fA a1 a4], h2⟩
theorem ZV {isS : Bool} {len cap : Nat} {ρ : Operand -> Value} {lo : Option Operand} {oh om : Operand} {φ : Int -> Int -> Int -> Prop} {w : World}
    (h : uK ρ lo 0 fun l => uK ρ (some oh) 0 fun h => uK ρ (some om) 0 fun m => φ l h m) (hb : ∀ l h m, φ l h m -> 0 <= l ∧ l <= h ∧ h <= m ∧ m <= (cap : Int)) :
    ∃ l h m, (Instr.sliceBounds isS len cap (lo.map ρ) (some (ρ oh)) (some (ρ om))).run P w = .ok (l.toNat, h.toNat, m.toNat) w ∧ φ l h m := by
  have key : ∀ l, (uK ρ (some oh) 0 fun h => uK ρ (some om) 0 fun m => φ l h m) -> ∃ kh h km m, ρ oh = .int kh h ∧ ρ om = .int km m ∧ φ l h m := by
    intro l hh
    rcases vO hh with ⟨e2, _⟩ | ⟨o', k', h', e2, ho', h2⟩
    · cases e2
    · cases e2
      rcases vO h2 with ⟨e3, _⟩ | ⟨o'', k'', h'', e3, ho'', h3⟩
      · cases e3
      · cases e3
        exact ⟨_, _, _, _, ho', ho'', h3⟩
  rcases vO h with ⟨e1, h1⟩ | ⟨o, k, l, e1, ho, h1⟩
  · subst e1
    obtain ⟨kh, h', km, m, ho, hm, h2⟩ := key _ h1
    obtain ⟨a1, a2, a3, a4⟩ := hb _ _ _ h2
    have b1 : (0 : Int) <= m := by omega
    have b3 : h' <= ((m.toNat : Nat) : Int) := by omega
    exact ⟨_, _, _, by simp [Instr.sliceBounds, ho, hm, fA b1 a4, fA a2 b3], h2⟩
  · subst e1
    obtain ⟨kh, h', km, m, ho', hm, h2⟩ := key _ h1
    obtain ⟨a1, a2, a3, a4⟩ := hb _ _ _ h2
    have b1 : (0 : Int) <= m := by omega
    have b2 : (0 : Int) <= h' := by omega
    have b3 : h' <= ((m.toNat : Nat) : Int) := by omega
    have b4 : l <= ((h'.toNat : Nat) : Int) := by omega
    exact ⟨_, _, _, by simp [Instr.sliceBounds, ho, ho', hm, fA b1 a4, fA b2 b3, fA a1 b4], h2⟩
theorem QJ {t : TypeId} {x : Value} {ρ : Operand -> Value} {lo hi mx : Option Operand} {φ : Value -> Prop} {w : World} (h : CV P t x ρ lo hi mx φ) :
    ∃ v, (Instr.sliceAt t x (lo.map ρ) (hi.map ρ) (mx.map ρ)).run P w = .ok v w ∧ φ v := by
  unfold CV at h
  split at h
  · rename_i s ht
    split at h
    · obtain ⟨l, h', hr, h0⟩ := Qk (P := P) (isS := false) (len := s.size) (cap := s.size) (w := w) (.inr rfl) h (fun l h' hh => ⟨hh.1, hh.2.1, hh.2.2.1⟩)
      exact ⟨_, by simp [Instr.sliceAt, Instr.slice, run_underlying ht, hr], h0.2.2.2⟩
    · exact h.elim
  · rename_i e a n c ht
    split at h
    · rename_i size hs
      split at h
      · obtain ⟨l, h', hr, h0⟩ := Qk (P := P) (isS := true) (len := n) (cap := c) (w := w) (.inl rfl) h (fun l h' hh => ⟨hh.1, hh.2.1, hh.2.2.1⟩)
        exact ⟨_, by simp [Instr.sliceAt, Instr.slice, run_underlying ht, hr, dK hs, ah.v, Aa], h0.2.2.2⟩
      · rename_i m
        split at h
        · rename_i hi'
          obtain ⟨l, h', m', hr, h0⟩ := ZV (P := P) (isS := true) (len := n) (cap := c) (w := w) h (fun l h' m' hh => ⟨hh.1, hh.2.1, hh.2.2.1, hh.2.2.2.1⟩)
          exact ⟨_, by simp [Instr.sliceAt, Instr.slice, run_underlying ht, hr, dK hs, ah.v, Aa], h0.2.2.2.2⟩
        · exact h.elim
    · exact h.elim
  · rename_i n e a ht
    split at h
    · rename_i size hs
      split at h
      · obtain ⟨l, h', hr, h0⟩ := Qk (P := P) (isS := false) (len := n) (cap := n) (w := w) (.inr rfl) h (fun l h' hh => ⟨hh.1, hh.2.1, hh.2.2.1⟩)
        exact ⟨_, by simp [Instr.sliceAt, Instr.sureAddr, run_underlying ht, hr, dK hs, ah.v], h0.2.2.2⟩
      · exact h.elim
    · exact h.elim
  · exact h.elim
end
end Gp
end
section
namespace Gp
open Go
section
variable {P : Program}
theorem Wj : ∀ (ks : List Kind) (φ : List Value -> Prop), abl ks φ -> ∃ vs, φ vs := by
  intro ks
  induction ks with
  | nil => exact fun φ h => ⟨_, h⟩
  | cons k ks ih => rintro φ ⟨x, h⟩; obtain ⟨vs, h⟩ := ih _ h; exact ⟨_, h⟩
theorem EP (s : Shape) (φ : Value -> Prop) (h : s.ex φ) : ∃ v, φ v := by
  cases s with
  | one k => obtain ⟨x, h⟩ := h; exact ⟨_, h⟩
  | agg ks => obtain ⟨vs, h⟩ := Wj ks _ h; exact ⟨_, h⟩
theorem xZ : ∀ (sh : List Shape) (φ : List Value -> Prop), CP sh φ -> ∃ vs, φ vs := by
  intro sh
  induction sh with
  | nil => exact fun φ h => ⟨_, h⟩
  | cons s sh ih => intro φ h; obtain ⟨v, h⟩ := EP s _ h; obtain ⟨vs, h⟩ := ih _ h; exact ⟨_, h⟩
theorem vJ (hP : OU P) {f : FuncId} (hb : lY P f = true) (args : Array Value) (w : World) : (callFunc f args).run P w = .ok (.enter f args) w := by
  unfold lY at hb
  cases hf : P.funcs[f]? with
  | none => simp [hf] at hb
  | some fn =>
    simp only [hf] at hb
    have hn := hP.enter f fn hf hb
    have hn' : ¬ (fn.name = "runtime.NumGoroutine") := by simpa using hn
    have hb' : ¬ (fn.body = none) := by intro hx; simp [hx] at hb
    simp [callFunc, hf, hn', hb']
theorem DC {sh : List Shape} {f : FuncId} {args : List Value} {w : World} {K : Value -> World -> Prop} (h : GK P sh f args w K) :
    Calls P f ⟨args⟩ w fun e w' => ∃ v, e = .returned v ∧ K v w' := by
  refine Calls.mono h fun e w' hx => ?_
  obtain ⟨vs, he, hk⟩ := xZ _ _ hx
  exact ⟨_, he, hk⟩
theorem Wn (hP : OU P) {sh : List Shape} {v : Value} {args : List Value} {w : World} {K : Value -> World -> Prop} (h : fM P sh v args w K) :
    Ran P K ((do let d <- Deferred.ofValue v ⟨args⟩; invoke d.target d.args : Sem Next).run P w) := by
  unfold fM at h
  split at h
  · rename_i f first cap
    cases hb : lY P f with
    | false => rw [hb] at h; exact h.elim
    | true =>
      rw [hb] at h
      have h := DC h
      have e : (⟨first.toList ++ (args ++ cap.toList)⟩ : Array Value) = first ++ (⟨args⟩ : Array Value) ++ cap := by apply Array.toList_inj.mp; simp
      rw [e] at h
      simpa [Deferred.ofValue, invoke, vJ hP hb, Ran] using h
  · rename_i l first cap
    obtain ⟨fn, tmps, assign, body, hy, hr⟩ := h
    have e : (⟨first.toList ++ args⟩ : Array Value) = first ++ (⟨args⟩ : Array Value) := by apply Array.toList_inj.mp; simp
    rw [e] at hy
    have : Ran P K (.ok (.round l fn tmps assign body) w) := RoundIn.mono hr fun e w' ⟨b, hb, hk⟩ => ⟨_, hb, hk⟩
    simpa [Deferred.ofValue, invoke, hy] using this
  · exact h.elim
theorem Vs {t : TypeId} {name : String} {f : FuncId} {d : TypeDesc} {v : Value} {w : World} (n : Nat) (ht : P.underlying t = some d) (hd : Uk d = false) (h : UK P t name = some f) :
    (Go.method (n + 1) t v name).run P w = .ok (f, v) w := by
  unfold UK at h
  split at h
  · rename_i i hi
    split at h
    · rename_i m hm
      split at h
      · rename_i f' hp hf
        obtain rfl := Option.some.inj h
        unfold Go.method
        cases d <;> first | (cases hd; done) | simp [run_typeInfo hi, hm, hp, hf, follow, receiverAt, run_underlying ht, Place.get]
      · cases h
    · cases h
  · cases h
theorem ZB (hP : OU P) {sh : List Shape} {x : Value} {name : String} {args : List Value} {w : World} {K : Value -> World -> Prop} (h : aaU P sh x name args w K) :
    Ran P K ((do let d <- (pure { target := .fn (.method name) #[], args := #[x] ++ (⟨args⟩ : Array Value) } : Sem Deferred); invoke d.target d.args : Sem Next).run P w) := by
  unfold aaU at h
  split at h
  · rename_i t v
    split at h
    · rename_i d f ht hm
      cases hd : Uk d with
      | true => rw [hd] at h; exact h.elim
      | false =>
        cases hb : lY P f with
        | false => rw [hd, hb] at h; exact h.elim
        | true =>
          rw [hd, hb] at h
          have h := DC h
          have e1 : ((#[Value.iface t v] ++ (⟨args⟩ : Array Value)).extract 1 (#[Value.iface t v] ++ (⟨args⟩ : Array Value)).size) = ⟨args⟩ := by apply Array.toList_inj.mp; simp
          have e2 : (⟨v :: args⟩ : Array Value) = #[v] ++ ⟨args⟩ := by apply Array.toList_inj.mp; simp
          rw [e2] at h
          have hm' : ∀ k, (Go.method (k + Made.depth) t v name).run P w = .ok (f, v) w := fun k => Vs (k + (Made.depth - 1)) ht hd hm
          simpa [invoke, callMethod, e1, hm', vJ hP hb, Ran] using h
    · exact h.elim
  · exact h.elim
theorem aav {z : Value} {t xt : TypeId} {d : TypeDesc} {x : Value} {ok : Bool} {K : Value -> Prop} {w : World} (hd : ∀ m, d ≠ .interface m) (ht : P.underlying t = some d) (hz : xY P t = some z) (h : AsP z t x ok K) :
    ∃ v, (Instr.typeAssert x xt t ok).run P w = .ok v w ∧ K v := by
  have hz' := tK (w := w) hz
  unfold AsP at h
  split at h
  · rename_i t' v
    cases hb : Nat.beq t' t with
    | true =>
      rw [hb] at h
      obtain rfl := Nat.eq_of_beq_eq_true hb
      refine ⟨_, ?_, h⟩
      cases d <;> first | exact (hd _ rfl).elim | (cases ok <;> simp [Instr.typeAssert, run_underlying ht])
    | false =>
      rw [hb] at h
      have hn : ¬ t' = t := fun e => by rw [e, Nat.beq_refl] at hb; cases hb
      cases ok with
      | false => exact h.elim
      | true =>
        refine ⟨_, ?_, h⟩
        cases d <;> first | exact (hd _ rfl).elim | simp [Instr.typeAssert, run_underlying ht, hn, hz']
  · cases ok with
    | false => exact h.elim
    | true =>
      refine ⟨_, ?_, h⟩
      cases d <;> first | exact (hd _ rfl).elim | simp [Instr.typeAssert, run_underlying ht, hz']
  · exact h.elim
theorem Jj {mx : Bool} {w : World} : ∀ (r : List Value) (x : Int) (k : IntKind) (φ : Value -> Prop), zJ mx x r k φ ->
    ∃ v, (r.foldlM (cond mx Builtin.max2 Builtin.min2) (Value.int k x)).run P w = .ok v w ∧ φ v := by
  intro r
  induction r with
  | nil => exact fun x k φ h => ⟨_, by simp, h⟩
  | cons y r ih =>
    intro x k φ h
    cases y with
    | int ky y =>
      simp only [zJ] at h
      obtain ⟨v, hv, hφ⟩ := ih _ _ _ h
      refine ⟨v, ?_, hφ⟩
      cases mx <;> simp only [cond_true, cond_false] at hv ⊢ <;> simp [List.foldlM_cons, Builtin.max2, Builtin.min2, hv]
    | _ => simp [zJ] at h
theorem UZ {d : TypeDesc} {t ty : TypeId} {x : Value} {w : World} {φ : Int -> Prop} (ht : P.underlying t = some d) (h : I5 d x w φ) :
    ∃ n, (Builtin.len_ #[t] ty #[x]).run P w = .ok (.int .i64 n) w ∧ φ n := by
  unfold I5 at h
  split at h
  · exact ⟨_, by simp [Builtin.len_, run_underlying ht, goInt], h⟩
  · exact ⟨_, by simp [Builtin.len_, run_underlying ht, goInt], h⟩
  · exact ⟨_, by simp [Builtin.len_, run_underlying ht, goInt], h⟩
  · unfold IC at h
    split at h
    · exact ⟨_, by simp [Builtin.len_, run_underlying ht, goInt], h⟩
    · obtain ⟨es, clock, hb, h⟩ := h
      exact ⟨_, by simp [Builtin.len_, run_underlying ht, goInt, getObj, Sem.run, hb], h⟩
  · exact h.elim
theorem aO {K : Value -> World -> Prop} {s : Sem Value} {w w' : World} {v : Value} (hr : s.run P w = .ok v w') (hk : K v w') :
    Ran P K ((do pure (Next.value (<- s)) : Sem Next).run P w) := by
  simp only [Sem.run_bind, hr, Result.andThen_ok, Sem.run_pure, Ran]; exact hk
theorem H7 {K : Value -> World -> Prop} {s : Sem Unit} {w w' : World} (hr : s.run P w = .ok () w') (hk : K undef w') :
    Ran P K ((do s; pure Next.skip : Sem Next).run P w) := by
  simp only [Sem.run_bind, hr, Result.andThen_ok, Sem.run_pure, Ran]; exact hk
theorem Rt {b : Builtin} {args : List Value} {tl : List TypeId} {ty : TypeId} {consts : Array Bool} {w : World} {K : Value -> World -> Prop} (h : kT P b tl args w K) :
    Ran P K ((builtin b ⟨tl⟩ ty consts ⟨args⟩).run P w) := by
  unfold kT at h
  split at h
  · split at h
    · rename_i ht
      obtain ⟨n, hr, hk⟩ := UZ (ty := ty) ht h
      simp [builtin, hr, Ran, hk]
    · exact h.elim
  · split at h
    · rename_i ht
      simp [builtin, Builtin.cap_, run_underlying ht, goInt, Ran, h]
    · exact h.elim
  · obtain ⟨v, hr, hk⟩ := Jj (P := P) (w := w) _ _ _ _ h
    simp only [cond_true] at hr
    simp [builtin, Builtin.max_, hr, Ran, hk]
  · obtain ⟨v, hr, hk⟩ := Jj (P := P) (w := w) _ _ _ _ h
    simp only [cond_false] at hr
    simp [builtin, Builtin.min_, hr, Ran, hk]
  · split at h
    · rename_i e d ht ht'
      split at h
      · rename_i _ b n m hs hb hz
        obtain ⟨i, hi, rfl⟩ := nN hs
        obtain ⟨i', hi', rfl⟩ := uf hb
        obtain ⟨i'', z, hi'', hz0, rfl⟩ := jy hz
        rw [hi] at hi' hi''; cases hi'; cases hi''
        obtain ⟨vs, hvs, h⟩ := h
        obtain ⟨s', w', hr, hk⟩ := OB (ty := ty) ht hi hz0 ht' (.inl ⟨_, rfl⟩) (x := .slice b n m) (n := n) (fun w => by simp [Builtin.lenOf]) (nU hvs) (nU (xB hvs)) h
        show Ran P K ((do pure (Next.value (<- Builtin.append_ #[_, _] ty #[_, _])) : Sem Next).run P w)
        exact aO hr hk
      · rename_i hs hb hz
        obtain ⟨i, hi, rfl⟩ := nN hs
        obtain ⟨i', hi', rfl⟩ := uf hb
        obtain ⟨i'', z, hi'', hz0, rfl⟩ := jy hz
        rw [hi] at hi' hi''; cases hi'; cases hi''
        have hf : ∀ (sz : Nat) (s : ByteArray) (w : World), (Builtin.firstCells sz s.size (.string s)).run P w = .ok ⟨byteCells s⟩ w := by
          intro sz s w
          simp only [Builtin.firstCells, Sem.run_pure, Result.ok.injEq, and_true]
          apply Array.toList_inj.mp
          have e : s.extract 0 s.size = s := ByteArray.extract_zero_size
          rw [e, Array.toList_map]
          rfl
        obtain ⟨s', w', hr, hk⟩ := OB (ty := ty) ht hi hz0 ht' (.inr rfl) (fun w => by simp [Builtin.lenOf]) (hf _ _ _) (hf _ _ _) h
        show Ran P K ((do pure (Next.value (<- Builtin.append_ #[_, _] ty #[_, _])) : Sem Next).run P w)
        exact aO hr hk
      · rename_i hs hb hz
        obtain ⟨i, hi, rfl⟩ := nN hs
        obtain ⟨i', hi', rfl⟩ := uf hb
        obtain ⟨i'', z, hi'', hz0, rfl⟩ := jy hz
        rw [hi] at hi' hi''; cases hi'; cases hi''
        cases hb : Nat.beq z.cells.toList.length i.size with
        | false => rw [hb] at h; exact h.elim
        | true =>
          rw [hb] at h
          simp only [cond_true] at h
          obtain ⟨s', w', hr, hk⟩ := RV (ty := ty) ht hi hz0 (Nat.eq_of_beq_eq_true hb) ht' h
          show Ran P K ((do pure (Next.value (<- Builtin.append_ #[_, _] ty #[_, _])) : Sem Next).run P w)
          exact aO hr hk
      · exact h.elim
    · exact h.elim
  · split at h
    · rename_i e ht
      split at h
      · rename_i hs
        obtain ⟨i, hi, rfl⟩ := nN hs
        obtain ⟨n, w', hr, hk⟩ := Uw (t' := _) (ty := ty) ht hi h
        show Ran P K ((do pure (Next.value (<- Builtin.copy_ #[_, _] ty #[_, _])) : Sem Next).run P w)
        exact aO hr hk
      · exact h.elim
    · exact h.elim
  · split at h
    · rename_i e ht
      split at h
      · rename_i hs hz
        obtain ⟨i, hi, rfl⟩ := nN hs
        obtain ⟨i'', z, hi'', hz0, rfl⟩ := jy hz
        rw [hi] at hi''; cases hi''
        cases hb : Nat.beq z.cells.toList.length i.size with
        | false => rw [hb] at h; exact h.elim
        | true =>
          rw [hb] at h
          simp only [cond_true] at h
          obtain ⟨w', hr, hk⟩ := SB (ty := ty) ht hi hz0 (Nat.eq_of_beq_eq_true hb) h
          show Ran P K ((do pure (Next.value (<- Builtin.clear_ #[_] ty #[_])) : Sem Next).run P w)
          exact aO hr hk
      · exact h.elim
    · exact h.elim
  · split at h
    · rename_i kt et ht
      obtain ⟨w', hr, hk⟩ := UW (t' := _) (ty := ty) ht h
      show Ran P K ((do pure (Next.value (<- Builtin.delete_ ⟨[_, _]⟩ ty ⟨[_, _]⟩)) : Sem Next).run P w)
      exact aO hr hk
    · exact h.elim
  · exact h.elim
theorem Dj (ρ : Operand -> Value) (ps : Array (Nat × Operand)) : (ps.map fun (i, x) => (i, ρ x)).toList = ps.toList.map fun p => (p.1, ρ p.2) := by
  simp
theorem QA (w : World) (cs : Array Value) (e : TypeId) (n : Nat) : (w.alloc (.cells cs e)).freeze ⟨w.heap.size, n, none⟩ 1 = w.alloc (.cells cs e (n, n + 1)) := by
  unfold World.freeze World.alloc
  simp only [Nat.succ_ne_zero, if_false]
  congr 1
  apply Array.ext_getElem?
  intro i
  rw [Array.getElem?_modify]
  by_cases h : w.heap.size = i
  · subst h; simp
  · simp [h, Ne.symm h, Array.getElem?_push]
theorem Oq (w : World) (e : TypeId) (s : ByteArray) :
    Lib.bytesWorld w e s = w.drew.alloc (.cells ⟨byteCells s ++ aJ [.int .u8 0] (grownCap w s.size 0 e - s.size)⟩ e (grownCap w s.size 0 e, grownCap w s.size 0 e + 1)) := by
  have hrep : ∀ n, aJ [.int .u8 0] n = List.replicate n (.int .u8 0) := by
    intro n
    induction n with
    | zero => rfl
    | succ n ih => simp [aJ, ih, List.replicate_succ]
  have hc : Lib.bytesCells w e s = ⟨byteCells s ++ aJ [.int .u8 0] (grownCap w s.size 0 e - s.size)⟩ := by
    apply Array.toList_inj.mp
    simp [Lib.bytesCells, byteCells, hrep]
  have hn : (Lib.bytesCells w e s).size = grownCap w s.size 0 e := by
    have := grownCap_ge w s.size 0 e
    have h2 : s.data.size = s.size := rfl
    simp [Lib.bytesCells, h2]; omega
  unfold Lib.bytesWorld
  rw [hn, <- hc]
  exact QA w.drew _ e _
theorem RZ (hP : OU P) {o : Oper} {ρ : Operand -> Value} {w : World} {K : Value -> World -> Prop} (hρ : ∀ f, ρ (.func f) = .func (.func f) #[] #[]) (h : uq P o ρ w K) : Ran P K ((execOp ρ o).run P w) := by
  obtain ⟨dst, op, type, pos, after, guard⟩ := o
  cases op <;> simp only [uq] at h <;> simp only [execOp]
  case move x => exact h
  case assign x => exact h
  case pick c a b =>
    split at h
    · rename_i t hc
      cases t <;> simp only [cond_true, cond_false] at h <;> simp [asBool, hc, Ran, h]
    · exact h.elim
  case alloc e =>
    split at h
    · rename_i z hz
      obtain ⟨v, hr, hv⟩ := qZ (w := w) hz
      refine aO (v := VI w) (w' := w.alloc (.cells ⟨z⟩ e)) ?_ h
      simp [Instr.alloc, hr, newVar, newRow, hv]
    · exact h.elim
  case box e x =>
    split at h
    · refine aO ?_ h.2
      simp [Instr.box, newVar, newRow, Jl h.1]
    · split at h
      · rename_i cs hc
        refine aO ?_ h
        simp [Instr.box, newVar, newRow, Value.cells, hc]
      · exact h.elim
    · exact h.elim
  case build t ps =>
    split at h
    · rename_i z fs hz ht
      obtain ⟨v, hr, hv⟩ := qZ (w := w) hz
      split at h
      · rename_i pl hpl
        split at h
        · rename_i cs hf
          refine aO ?_ h
          have hp := QK (w := w) _ _ hpl
          have hm : (fs.mapM fun (f : Field) => (do pure (f.offset, <- Go.sizeOf f.type) : Sem (Nat × Nat))).run P w = .ok ⟨pl⟩ w := by
            rw [Array.mapM_eq_mapM_toList, Sem.run_map, hp]; rfl
          have hfill := FY _ (fun i => (⟨pl⟩ : Array (Nat × Nat))[i]?) (fun i x hx => by simpa using hx) _ _ _ hf
          simp only [Instr.build, Sem.run_bind, hr, Result.andThen_ok, run_underlying ht, hm, hv, Dj]
          rw [hfill]
          rfl
        · exact h.elim
      · exact h.elim
    · rename_i z n e hz ht
      obtain ⟨v, hr, hv⟩ := qZ (w := w) hz
      split at h
      · rename_i size hs
        split at h
        · rename_i cs hf
          refine aO ?_ h
          have hfill := FY _ (fun i => some (i * size, size)) (fun i x hx => hx) _ _ _ hf
          simp only [Instr.build, Sem.run_bind, hr, Result.andThen_ok, run_underlying ht, dK hs, hv, Dj]
          rw [hfill]
          rfl
        · exact h.elim
      · exact h.elim
    · exact h.elim
  case buildSlice t n ps =>
    split at h
    · rename_i e ht
      split at h
      · rename_i size z hs hz
        obtain ⟨v, hr, hv⟩ := qZ (w := w) hz
        cases hb : (Nat.ble (n * size) 4096 && Nat.beq z.length size) with
        | false => rw [hb] at h; exact h.elim
        | true =>
          rw [hb] at h
          simp only [Bool.and_eq_true, Nat.ble_eq, Nat.beq_eq] at hb
          obtain ⟨b1, b2⟩ := hb
          simp only [cond_true] at h
          obtain ⟨cs, hf, h⟩ := abW h
          · refine aO ?_ h
            have hfill := FY _ (fun i => some (i * size, size)) (fun i x hx => hx) _ _ _ hf
            have hz2 : (Array.range (n * size)).map (fun i => v.cells[i % v.cells.size]!) = ⟨aJ z n⟩ := by
              have := jK v.cells n
              rw [hv] at this ⊢
              simp only [Builtin.zeroCells, List.size_toArray, b2] at this ⊢
              exact this
            have c1 : ¬ (n * size > 2 ^ 24) := by omega
            by_cases c2 : n * size = 0
            · have hrep : aJ z n = [] := by
                have := uP z n
                rw [b2, c2] at this
                exact List.length_eq_zero_iff.1 this
              rw [hrep] at hfill
              have hfill' : Instr.fill (fun i => some (i * size, size)) #[] (ps.toList.map fun p => (p.1, ρ p.2)) = some ⟨cs⟩ := hfill
              have c1' : ¬ (0 > 2 ^ 24) := by decide
              simp only [Instr.buildSlice, Sem.run_bind, run_underlying ht, Result.andThen_ok, dK hs, c2, if_true, Dj, c1', if_false, Sem.run_pure, Array.range_zero', Array.map_empty, hfill']
              rfl
            · simp only [Instr.buildSlice, Sem.run_bind, run_underlying ht, Result.andThen_ok, dK hs, c1, if_false, c2, Dj, hr, Sem.run_pure]
              rw [hz2, hfill]
              rfl
      · exact h.elim
    · exact h.elim
  case load t x =>
    split at h
    · rename_i a sh n hx hs hn
      cases hb : Nat.beq sh.cells n with
      | false => rw [hb] at h; exact h.elim
      | true =>
        rw [hb] at h
        obtain ⟨v, hr, hk⟩ := Js hs hn (Nat.eq_of_beq_eq_true hb) h
        exact aO (by simp [Instr.loadAt, Instr.sureAddr, hx, hr]) hk
    · exact h.elim
  case store t x y =>
    split at h
    · rename_i a k n hx hs hn
      cases hb : Nat.beq n 1 with
      | false => rw [hb] at h; exact h.elim
      | true =>
        rw [hb] at h
        have hb := Nat.eq_of_beq_eq_true hb
        subst hb
        obtain ⟨hr, hk⟩ := U3 (P := P) h
        refine H7 (w' := w.setCell a (ρ y)) ?_ hk
        have h1 := Jl h.1
        simp [Instr.storeAt, Instr.sureAddr, hx, storeVar, h1, dK hn, storeCells, add_zero', hr]
    · rename_i a ks n hx hs hn
      split at h
      · rename_i cs hy
        cases hb : Nat.beq cs.toList.length n with
        | false => rw [hb] at h; exact h.elim
        | true =>
          rw [hb] at h
          have hb := Nat.eq_of_beq_eq_true hb
          obtain ⟨w', hr, hk⟩ := aaj (P := P) _ _ _ h
          refine H7 (w' := w') ?_ hk
          have hl : cs.size = n := by simpa using hb
          simp [Instr.storeAt, Instr.sureAddr, hx, hy, storeVar, Value.cells, dK hn, hl, hr]
      · exact h.elim
    · exact h.elim
  case nilCheck x =>
    split at h
    · rename_i q hx
      obtain ⟨a, rfl, hk⟩ := h
      simp only [hx]
      exact hk
    · exact h.elim
  case binOp op t x y yt =>
    split at h
    · obtain ⟨v, hr, hk⟩ := WW x (w := w) h
      exact aO hr hk
    · obtain ⟨v, hr, hk⟩ := Qb x y (w := w) h
      exact aO hr hk
  case unOp op t x =>
    obtain ⟨v, hr, hk⟩ := SL (P := P) (w := w) h
    exact aO hr hk
  case convert s d x =>
    split at h
    · rename_i e a n c hs hd hx
      split at h
      · rename_i he
        obtain ⟨b, hr, hk⟩ := L_ (P := P) h
        refine aO ?_ hk
        rw [hx, run_convert_bytes_string w s d e a n c hs he hd]
        exact hr
      · exact h.elim
    · rename_i e b hs hd hx
      split at h
      · rename_i he
        have hr := Lib.run_convert_string_bytes w s d e b hs hd he
        have hc := h.2 (grownCap w b.size 0 e) (by have := grownCap_ge w b.size 0 e; omega) (by
          simp only [grownCap, Question.cut]
          have h1 := h.1
          have := Nat.mod_lt (w.tape w.drawn (.appendCap b.size 0 e)) (show 0 < 2 ^ 63 - b.size by omega)
          omega)
        rw [<- Oq] at hc
        exact aO (by rw [hx]; exact hr) hc
      · exact h.elim
    · rename_i e' e a n c hs hd hx
      split at h
      · rename_i he hb
        obtain ⟨T, m, hsh, hk⟩ := h
        refine aO ?_ hk
        have hsd : s = d := Nat.eq_of_beq_eq_true hb
        subst hsd
        have hee : e' = e := by rw [hd] at hs; cases hs; rfl
        subst hee
        rw [hx]
        simp [convert, run_underlying hd, run_underlying he, markStringish, hsh]
      · exact h.elim
    · rename_i n1 n2 n3
      unfold Ky at h
      split at h
      · rename_i u k n hs hd hx
        refine aO ?_ h
        simp [convert, hx, run_underlying hs, run_underlying hd, Conv.intToInt]
      · rename_i b hs hd hx
        refine aO ?_ h
        simp [convert, hx, run_underlying hs, run_underlying hd]
      · exact h.elim
  case makeFunc fn first cap =>
    rw [PW, PW]
    exact h
  case lookup t x i ok =>
    cases ok with
    | true =>
      simp only at h
      split at h
      case h_2 => exact h.elim
      rename_i kt et r ht hx
      split at h
      case h_2 => exact h.elim
      rename_i sh z hs hz
      obtain ⟨v, b, hr, hk⟩ := Jm ht hz h true
      obtain ⟨v', rfl, hk⟩ := EP _ _ hk
      exact aO (by rw [hx]; exact hr) hk
    | false =>
      simp only at h
      split at h
      case h_2 => exact h.elim
      rename_i kt et r ht hx
      split at h
      case h_3 => exact h.elim
      case h_1 =>
        rename_i k z hs hz
        obtain ⟨x', hr, hk⟩ := U5 ht hz h
        exact aO (by rw [hx]; exact hr) hk
      case h_2 =>
        rename_i ks z hs hz
        obtain ⟨v, b, hr, hk⟩ := Jm ht hz h false
        obtain ⟨v', rfl, hk⟩ := EP _ _ hk
        exact aO (by rw [hx]; exact hr) hk
  case mapUpdate t x i v =>
    split at h
    case h_2 => exact h.elim
    rename_i kt et r ht hx
    obtain ⟨w', hr, hk⟩ := Vd ht h
    exact H7 (by rw [hx]; exact hr) hk
  case mapEntry t x i =>
    split at h
    case h_2 => exact h.elim
    rename_i kt et r ht hx
    split at h
    · rename_i z hz
      obtain ⟨v, n, w', hr, hk⟩ := Us ht hz h
      exact aO (by rw [hx]; exact hr) hk
    · exact h.elim
  case entryStore t x st v =>
    split at h
    · rename_i r k n hx hst
      obtain ⟨w', hr, hk⟩ := Wx (t := t) (k := k) h
      exact H7 (by rw [hx, hst]; exact hr) hk
    · exact h.elim
  case makeMap t r =>
    cases r with
    | some r => exact h.elim
    | none => exact aO (by simp [Instr.makeMap]) h
  case makeSlice t l c =>
    split at h
    · rename_i e kl n kc m ht hl hc
      split at h
      · rename_i size bytes z hs hb hz
        obtain ⟨i, hi, rfl⟩ := nN hs
        obtain ⟨i', hi', rfl⟩ := uf hb
        obtain ⟨i'', z, hi'', hz0, rfl⟩ := jy hz
        rw [hi] at hi' hi''; cases hi'; cases hi''
        cases hb : Nat.beq z.cells.toList.length i.size with
        | false => rw [hb] at h; exact h.elim
        | true =>
          rw [hb] at h
          simp only [cond_true] at h
          obtain ⟨s, w', hr, hk⟩ := Ur ht hi hz0 (Nat.eq_of_beq_eq_true hb) h
          exact aO (by rw [hl, hc]; exact hr) hk
      · exact h.elim
    · exact h.elim
  case slice t x lo hi mx =>
    obtain ⟨v, hr, hk⟩ := QJ (w := w) h
    exact aO hr hk
  case fieldAddr t x f =>
    split at h
    · rename_i fs a ht hx
      split at h
      · rename_i off size hf
        cases hb : Nat.beq size 0 with
        | true => rw [hb] at h; exact h.elim
        | false =>
          rw [hb] at h
          obtain ⟨fd, h1, h2⟩ := MB (w := w) hf hb a
          exact aO (by simp [Instr.fieldAt, run_underlying ht, h1, Instr.sureAddr, hx, h2]) h
      · exact h.elim
    · exact h.elim
  case field t x f =>
    split at h
    · rename_i fs cs ht hx
      split at h
      · rename_i fd hf
        split at h
        · rename_i d size hd hs
          obtain ⟨v, hr, hk⟩ := Le (w := w) hd hs h
          have hf' : fs[f]? = some fd := by simpa using hf
          exact aO (by simp [Instr.field, run_underlying ht, hf', hx, asAgg, hr]) hk
        · exact h.elim
      · exact h.elim
    · exact h.elim
  case indexAddr t x i =>
    split at h
    · rename_i e a n c k i' ht hx hi
      split at h
      · rename_i size hs
        obtain ⟨a', h1, h2, h3, hk⟩ := h
        simp only at h1 h2 h3 hk
        subst h1
        refine aO ?_ hk
        simp [Instr.indexAt, hi, hx, asIntOf, run_underlying ht, dK hs, h2, h3]
      · exact h.elim
    · rename_i n e a k i' ht hx hi
      split at h
      · rename_i size hs
        obtain ⟨h2, h3, hk⟩ := h
        refine aO ?_ hk
        simp [Instr.indexAt, hi, hx, asIntOf, run_underlying ht, dK hs, h2, h3, Instr.sureAddr]
      · exact h.elim
    · exact h.elim
  case index t x i =>
    split at h
    · rename_i s k i' ht hx hi
      obtain ⟨b, h1, h2, hk⟩ := h
      refine aO ?_ hk
      simp [Instr.index, hi, hx, asIntOf, run_underlying ht, h1, h2]
    · rename_i n e cs k i' ht hx hi
      split at h
      · rename_i d size hd hs
        obtain ⟨h1, h2, h⟩ := h
        obtain ⟨v, hr, hk⟩ := Le (w := w) hd hs h
        refine aO ?_ hk
        simp [Instr.index, hi, hx, asIntOf, run_underlying ht, dK hs, h1, h2, hr]
      · exact h.elim
    · exact h.elim
  case extract t i =>
    split at h
    · rename_i vs ht
      split at h
      · rename_i v hv
        have hv' : vs[i]? = some v := by simpa using hv
        split at h
        · obtain ⟨x, hx, h⟩ := Gu h
          refine aO ?_ h
          rw [<- hx]
          simp [Instr.extract, ht, hv']
        · refine aO ?_ h
          simp [Instr.extract, ht, hv']
      · exact h.elim
    · exact h.elim
  case range t x =>
    split at h
    · rename_i kt et r ht hx
      rcases h with ⟨rfl, h⟩ | ⟨b, es, clock, rfl, hb, h⟩
      · exact aO (by rw [hx]; simp [Instr.range, run_underlying ht]) h
      · exact aO (by rw [hx]; simp [Instr.range, run_underlying ht, MapKept.run_getObj_map hb]) h
    · exact h.elim
  case next x s =>
    cases s with
    | true => exact h.elim
    | false =>
    simp only at h
    split at h
    · rename_i a hx
      obtain ⟨h0, h⟩ := h
      rcases h with ⟨s, sn, c, hr, h⟩ | ⟨b, since, seen, c0, es, clock, hr, hb, hold, hsc, hend, hstep⟩
      · refine aO ?_ h
        rw [hx, h0]
        simp [Instr.next, getObj, Sem.run, hr, Result.andThen]
      · rcases run_next_at (P := P) w _ a.block b since c0 seen es clock hr hb hold hsc with ⟨h1, h2⟩ | ⟨e, he, w1, hw1, h2⟩
        · exact aO (by rw [hx, h0]; exact h2) (hend h1)
        · exact aO (by rw [hx, h0]; exact h2) (hstep e he w1 hw1)
    · exact h.elim
  case entry x =>
    split at h
    · rename_i a hx
      obtain ⟨h0, b, since, seen, es, clock, e, hr, hb, he, hn, h⟩ := h
      exact aO (by rw [hx, h0]; exact run_entry_at (P := P) w a.block b since seen es clock e hr hb he hn) h
    · exact h.elim
  case call c =>
    have hargs : c.args.map ρ = ⟨c.args.toList.map ρ⟩ := PW _ _
    split at h
    · rename_i f hc
      split at h
      · rename_i sh hsh
        cases hb : lY P f with
        | false =>
          rw [hb] at h
          obtain ⟨v, w', hr, hk⟩ := h
          obtain ⟨vs, rfl, hk'⟩ := xZ _ _ hk
          have hev : ρ (.func f) = .func (.func f) #[] #[] := hρ f
          simp only [resolve, hc, hev, Deferred.ofValue, hargs]
          simpa [invoke, hr, Ran] using hk'
        | true =>
          rw [hb] at h
          have h := DC h
          have hev : ρ (.func f) = .func (.func f) #[] #[] := hρ f
          simp only [resolve, hc, hev, Deferred.ofValue, hargs]
          simpa [invoke, vJ hP hb, Ran] using h
      · exact h.elim
    · rename_i x hx hc
      split at h
      · rename_i sh hsh
        have := Wn hP h
        simp only [resolve, hc, hargs]
        refine Ran.mono (fun r w' hr => ?_) this
        obtain ⟨vs, rfl, hk⟩ := xZ _ _ hr
        exact hk
      · exact h.elim
    · rename_i b hc
      simp only [resolve, hc, hargs]
      exact Rt (tl := c.argTypes.toList) h
    · rename_i x name hc
      split at h
      · simp only [resolve, hc, hargs]
        exact ZB hP h
      · exact h.elim
  case makeInterface t x =>
    split at h
    · exact h.elim
    · rename_i d hd ht
      refine aO (by simp only [Instr.makeInterface, Sem.run_bind, run_underlying ht]; cases d <;> first | rfl | exact (hd _ rfl).elim) h
    · exact h.elim
  case typeAssert x xt t ok =>
    split at h
    · exact h.elim
    · rename_i d z hd ht hz
      obtain ⟨v, hr, hk⟩ := aav (xt := xt) (fun m => hd m) ht hz h
      exact aO hr hk
    · exact h.elim
  all_goals exact h.elim
end
end Gp
end
section
namespace Gp
open Go
def Fr (r : Option Nat) : Fence := { Fence.wide with round := r }
def WZ (env : Env) (a : Act) : Prop := ∀ s v, env.get s = some v -> a.tmps[s]? = some v
theorem jT (s : Nat) (v : Value) (r : Env) (t : Nat) : Env.get ((s, v) :: r) t = if s = t then some v else Env.get r t := by
  simp only [Env.get]
  by_cases h : s = t
  · subst h; simp
  · have : Nat.beq s t = false := by cases hb : Nat.beq s t; rfl; exact absurd (Nat.eq_of_beq_eq_true hb) h
    simp [this, h]
theorem yA (a : Act) (d : Option Nat) (v : Value) : (a.put d v).tmps.size = a.tmps.size := by cases d <;> simp [Act.put]
theorem BA (a : Act) (d : Option Nat) (v : Value) : (a.put d v).defers = a.defers := by cases d <;> rfl
theorem xI (a : Act) (d : Option Nat) (v : Value) (s : Nat) : (a.put d v).tmps[s]? = if d = some s ∧ s < a.tmps.size then some v else a.tmps[s]? := by
  cases d with
  | none => simp [Act.put]
  | some d =>
    simp only [Act.put, Array.getElem?_setIfInBounds, Option.some.injEq]
    by_cases h : d = s
    · subst h
      by_cases h2 : d < a.tmps.size
      · simp [h2]
      · simp [h2]
    · simp [h]
theorem WZ.put {env : Env} {a : Act} {d : Option Nat} {v : Value} (h : WZ env a) (hd : oz a.tmps.size d = true) : WZ (env.put d v) (a.put d v) := by
  intro s u hs
  rw [xI]
  cases d with
  | none => simpa using h s u hs
  | some d =>
    simp only [Env.put] at hs
    rw [jT] at hs
    have hlt : d < a.tmps.size := by simp only [oz, Nat.blt_eq] at hd; exact hd
    by_cases e : d = s
    · subst e; simp at hs; simp [hlt, hs]
    · rw [if_neg e] at hs
      have : ¬ (some d = some s ∧ s < a.tmps.size) := fun x => e (by simpa using x.1)
      rw [if_neg this]
      exact h s u hs
theorem YM {env : Env} : ∀ (l : List Operand), Xm env l = true -> ∀ x ∈ l, (XY env x).isSome = true := by
  intro l
  induction l with
  | nil => intro _ x hx; cases hx
  | cons y l ih =>
    intro h x hx
    simp only [Xm, Bool.and_eq_true] at h
    cases hx with
    | head => exact h.1
    | tail _ hx => exact ih h.2 x hx
theorem abC {env : Env} {a : Act} (h : WZ env a) {x : Operand} (hx : (XY env x).isSome = true) : ev env x = a.eval x := by
  unfold ev
  cases x with
  | tmp t =>
    simp only [XY] at hx ⊢
    cases hg : env.get t with
    | none => simp [hg] at hx
    | some v =>
      have := h t v hg
      simp [Act.eval, Array.getD_eq_getD_getElem?, this]
  | const v => rfl
  | global g => rfl
  | func f => rfl
theorem Ls {P : Program} {o : Oper} {ρ : Operand -> Value} {w : World} {K : Value -> World -> Prop} (h : uq P o ρ w K) : (∀ cs b, o.op ≠ .select cs b) ∧ (∀ c, o.op ≠ .defer c) := by
  constructor
  · intro cs b e; simp only [uq, e] at h
  · intro c e; simp only [uq, e] at h
theorem Yq {P : Program} {o : Oper} {a : Act} {w : World} {K : Value -> World -> Prop} {r : Option Nat} {n : Nat} {next : Act -> World -> Prop} {Q : Exit -> Act -> World -> Prop}
    (hd : ∀ c, o.op ≠ .defer c) (h : Ran P K ((execOp a.eval o).run P w)) (hk : ∀ v w', K v w' -> next (a.put o.dst v) w') : o.wpIn (Fr r) n P a w next Q := by
  refine ⟨fun _ _ => trivial, ?_⟩
  rw [Oper.semAt_eq _ _ _ hd]
  generalize (execOp a.eval o).run P w = res at h
  cases res with
  | halt x w' => exact h.elim
  | ok x w' =>
    cases x <;> simp only [Ran] at h <;> simp only [Oper.uponIn]
    case value v => exact hk _ _ h
    case skip => exact hk _ _ h
    case enter f args =>
      refine ⟨fun hx => by simp [Fr, Fence.wide] at hx, ?_⟩
      have : CallsIn Fence.wide (n - 1) P f args w' fun e w'' => ∃ v, e = .returned v ∧ K v w'' := callsIn_wide.2 h
      refine CallsIn.mono (F := Fr r) this fun e w'' hx => ?_
      obtain ⟨v, rfl, hv⟩ := hx
      exact hk _ _ hv
    case round l f tmps assign body =>
      refine ⟨fun hx => by simp [Fr, Fence.wide] at hx, ?_⟩
      refine RoundIn.mono (F := Fr r) (n := n - 1) ⟨h.1, fun c cs _ => h.2 c cs (room_wide _)⟩ fun e w'' hx => ?_
      obtain ⟨v, rfl, hv⟩ := hx
      exact hk _ _ hv
    all_goals exact h.elim
theorem MH {g : Bool} {v : Value} {K : Value -> Prop} (h : split g v K) : K v := by
  unfold split at h
  cases g with
  | false => exact h
  | true =>
    simp only [cond_true] at h
    cases v <;> first | exact h | skip
    rename_i b
    cases b <;> exact h
structure F6 (nt : Nat) (ds : List Deferred) (ws : List Nat) (a0 : Act) (env : Env) (a : Act) : Prop where
  agr : WZ env a
  size : a.tmps.size = nt
  defers : a.defers = ds
  same : ∀ s, s ∉ ws -> a.tmps[s]? = a0.tmps[s]?
theorem Je {ops : Array Oper} {a : Act} {env : Env} {j s : Nat} (ha : ∀ u, env.get s = some u -> a.tmps[s]? = some u) {t : Bool} (h1 : (ops.toList[j]?).bind (·.dst) = some s) (h2 : env.get s = some (.bool t)) :
    yielded ops a.tmps j = some t := by
  have h1' : (ops[j]?).bind (·.dst) = some s := by simpa using h1
  have := ha _ h2
  simp [yielded, h1', this]
def TL (env : Env) (a : Act) (ss : List Nat) : Prop := ∀ s ∈ ss, ∀ u, env.get s = some u -> a.tmps[s]? = some u
theorem WZ.on {env : Env} {a : Act} (h : WZ env a) (ss : List Nat) : TL env a ss := fun s _ u hu => h s u hu
theorem Yp {env : Env} {a : Act} {ss : List Nat} (h : TL env a ss) {x : Operand} (hm : ∀ t, x = .tmp t -> t ∈ ss) (hx : (XY env x).isSome = true) : ev env x = a.eval x := by
  unfold ev
  cases x with
  | tmp t =>
    simp only [XY] at hx ⊢
    cases hg : env.get t with
    | none => simp [hg] at hx
    | some v =>
      have := h t (hm t rfl) v hg
      simp [Act.eval, Array.getD_eq_getD_getElem?, this]
  | const v => rfl
  | global g => rfl
  | func f => rfl
theorem NV {ops : Array Oper} {o : Oper} {t : Nat} (h : Operand.tmp t ∈ o.op.operands.toList) : t ∈ o.looksAt ops :=
  List.mem_append_left _ (List.mem_filterMap.2 ⟨.tmp t, h, rfl⟩)
theorem xE {ops : Array Oper} {o : Oper} {j s : Nat} {want : Bool} (hg : o.guard = some (j, want)) (hs : (ops.toList[j]?).bind (·.dst) = some s) : s ∈ o.looksAt ops := by
  refine List.mem_append_right _ ?_
  have h1' : (ops[j]?).bind (·.dst) = some s := by simpa using hs
  simp [hg, h1']
theorem EJ {P : Program} (hP : OU P) {nt : Nat} {o : Oper} {g : Bool} {env : Env} {w : World} {K : Env -> World -> Prop} {a : Act} {r : Option Nat} {n : Nat}
    {next : Act -> World -> Prop} {Q : Exit -> Act -> World -> Prop} {ops : Array Oper} (h : tY P nt o g env w K) (ha : TL env a (o.looksAt ops))
    (hk : ∀ v w', K (env.put o.dst v) w' -> oz nt o.dst = true -> next (a.put o.dst v) w') : o.wpIn (Fr r) n P a w next Q := by
  unfold tY at h
  cases hb : (Xm env o.op.operands.toList && oz nt o.dst) with
  | false => rw [hb] at h; exact h.elim
  | true =>
    rw [hb] at h
    simp only [cond_true] at h
    simp only [Bool.and_eq_true] at hb
    have hcongr : execOp a.eval o = execOp (ev env) o := (execOp_congr o (Ls h).1 fun x hx => Yp ha (fun t e => NV (by subst e; simpa using hx)) (YM _ hb.1 x (by simpa using hx))).symm
    have hr := RZ hP (fun f => rfl) h
    rw [<- hcongr] at hr
    exact Yq (Ls h).2 hr fun v w' hv => hk v w' (MH hv) hb.2
theorem yg {P : Program} (hP : OU P) {nt : Nat} {ops : Array Oper} {i : Nat} {o : Oper} {g : Bool} {env : Env} {w : World} {K : Env -> World -> Prop} {a : Act} {r : Option Nat} {n : Nat}
    {next : Act -> World -> Prop} {Q : Exit -> Act -> World -> Prop} (ho : ops[i]? = some o) (h : nM P nt ops.toList o g env w K) (ha : TL env a (o.looksAt ops))
    (hk : ∀ v w', K (env.put o.dst v) w' -> oz nt o.dst = true -> next (a.put o.dst v) w') : wpOpIn (Fr r) n P ops Q i next a w := by
  unfold wpOpIn
  simp only [ho]
  unfold nM at h
  cases hg : o.guard with
  | none =>
    simp only [hg] at h
    have hw : Region.wanted o (yielded ops a.tmps) = true := by simp [Region.wanted, hg]
    rw [if_pos hw]
    exact EJ hP h ha hk
  | some jw =>
    obtain ⟨j, want⟩ := jw
    simp only [hg] at h
    cases hs : (ops.toList[j]?).bind (·.dst) with
    | none => simp only [hs] at h
    | some s =>
      simp only [hs] at h
      split at h
      · rename_i t ht
        have hy := Je (ha _ (xE hg hs)) hs ht
        cases hb : (t == want) with
        | true =>
          rw [hb] at h
          have hw : Region.wanted o (yielded ops a.tmps) = true := by
            have : t = want := by simpa using hb
            simp [Region.wanted, hg, hy, this]
          rw [if_pos hw]
          exact EJ hP h ha hk
        | false =>
          rw [hb] at h
          have hw : ¬ (Region.wanted o (yielded ops a.tmps) = true) := by
            have : t ≠ want := by intro e; simp [e] at hb
            simp [Region.wanted, hg, hy, this]
          rw [if_neg hw]
          refine ⟨fun _ _ => trivial, ?_⟩
          simp only [cond_false] at h
          cases hd : oz nt o.dst with
          | false => rw [hd] at h; exact h.elim
          | true => rw [hd] at h; exact hk _ _ h hd
      · rename_i vs ht
        have hw : ¬ (Region.wanted o (yielded ops a.tmps) = true) := by
          have h1' : (ops[j]?).bind (·.dst) = some s := by simpa using hs
          have := (ha _ (xE hg hs)) _ ht
          simp [Region.wanted, hg, yielded, h1', this]
        rw [if_neg hw]
        refine ⟨fun _ _ => trivial, ?_⟩
        cases hd : oz nt o.dst with
        | false => rw [hd] at h; exact h.elim
        | true => rw [hd] at h; exact hk _ _ h hd
      · exact h.elim
def G9 (ops : List Oper) : List Nat := ops.filterMap (·.dst)
theorem F6.put {nt : Nat} {ds : List Deferred} {ws : List Nat} {a0 : Act} {env : Env} {a : Act} {d : Option Nat} {v : Value} (h : F6 nt ds ws a0 env a) (hd : oz nt d = true) (hw : ∀ s, d = some s -> s ∈ ws) :
    F6 nt ds ws a0 (env.put d v) (a.put d v) := by
  refine ⟨h.agr.put (by rw [h.size]; exact hd), by rw [yA]; exact h.size, by rw [BA]; exact h.defers, fun s hs => ?_⟩
  rw [xI]
  have : ¬ (d = some s ∧ s < a.tmps.size) := fun x => hs (hw s x.1)
  rw [if_neg this]
  exact h.same s hs
theorem Py {P : Program} (hP : OU P) {nt : Nat} {ops : Array Oper} {K : Env -> World -> Prop} {r : Option Nat} {n : Nat} {Q : Exit -> Act -> World -> Prop} {ds : List Deferred} {ws : List Nat} {a0 : Act}
    (hws : ∀ d ∈ G9 ops.toList, d ∈ ws) (hQ : ∀ env a w, F6 nt ds ws a0 env a -> K env w -> Q .normal a w) :
    ∀ (l : List Oper) (i : Nat) (env : Env) (a : Act) (w : World), ops.toList.drop i = l -> F6 nt ds ws a0 env a -> UJ P nt ops.toList i l env w K ->
      wpOpsIn (Fr r) n P ops Q (List.range' i l.length) a w := by
  intro l
  induction l with
  | nil => intro i env a w _ ha h; exact hQ _ _ _ ha h
  | cons o l ih =>
    intro i env a w hl ha h
    have ho : ops[i]? = some o := by
      have := congrArg (fun l : List Oper => l[0]?) hl
      simpa using this
    rw [List.length_cons, List.range'_succ, wpOpsIn_cons]
    have hmem : o ∈ ops.toList := by
      have : o ∈ ops.toList.drop i := by rw [hl]; simp
      exact List.mem_of_mem_drop this
    refine yg hP ho h (ha.agr.on _) fun v w' hv hd => ?_
    refine ih (i + 1) _ _ _ ?_ (ha.put hd fun s hs => hws s (List.mem_filterMap.2 ⟨o, hmem, hs⟩)) hv
    have := congrArg List.tail hl
    simpa [List.tail_drop] using this
end Gp
end
section
namespace Gp
open Go
def AL (x : Nat) : List Nat -> Bool
  | [] => false
  | y :: r => cond (Nat.beq y x) true (AL x r)
def vY (P : Program) (o : Oper) : Bool :=
  match o.op with
  | .load _ _ => o.dst.isNone
  | .move _ | .assign _ | .pick _ _ _ | .build _ _ | .nilCheck _ | .binOp _ _ _ _ _ | .unOp _ _ _ | .makeFunc _ _ _ | .slice _ _ _ _ _
  | .fieldAddr _ _ _ | .field _ _ _ | .indexAddr _ _ _ | .index _ _ _ | .extract _ _ => false
  | .convert s d _ => match P.underlying s, P.underlying d with
    | some (.slice _), some .string => true
    | some .string, some (.slice _) => true
    | some (.slice _), some (.slice _) => true
    | _, _ => false
  | .call c => match c.callee with
    | .builtin .len => match c.argTypes.toList with
      | [t] => match P.underlying t with
        | some .string => false
        | some (.slice _) => false
        | some (.array _ _) => false
        | _ => true
      | _ => true
    | .builtin .cap => false
    | .builtin .max => false
    | .builtin .min => false
    | _ => true
  | _ => true
def qY (done : List Nat) (o : Oper) : Bool := o.after.toList.all fun e => !Region.binds .any e || AL e.on done
def enumFrom : Nat -> List Oper -> List (Nat × Oper)
  | _, [] => []
  | i, o :: r => (i, o) :: enumFrom (i + 1) r
def tZ (P : Program) (done : List Nat) : List (Nat × Oper) -> Option (Nat × Oper)
  | [] => none
  | (i, o) :: r => cond (!AL i done && (!vY P o && qY done o)) (some (i, o)) (tZ P done r)
def zH (P : Program) (done : List Nat) : List (Nat × Oper) -> List (Nat × Oper)
  | [] => []
  | (i, o) :: r => cond (!AL i done && (vY P o && qY done o)) ((i, o) :: zH P done r) (zH P done r)
def yJ : List Value -> World -> Addr -> Nat -> Prop -> Prop
  | [], _, _, _, rest => rest
  | v :: vs, w, a, i, rest => w.cell? (a.add i) = some v ∧ yJ vs w a (i + 1) rest
def Ag (sh : Shape) (av v : Value) (w : World) (rest : Prop) : Prop :=
  match sh, av, v with
  | .one _, .pointer (some a), v => w.cell? a = some v ∧ rest
  | .agg _, .pointer (some a), .agg cs => yJ cs.toList w a 0 rest
  | _, _, _ => False
def bitsOf (acc : List Nat) : List Edge -> Nat
  | [] => 0
  | e :: r => cond (Region.binds .any e) (2 ^ e.on ||| (acc.getD e.on 0 ||| bitsOf acc r)) (bitsOf acc r)
def vk : List Oper -> List Nat -> List Nat
  | [], acc => acc
  | o :: r, acc => vk r (acc ++ [bitsOf acc o.after.toList])
def Ua (pb : Nat) (w : World) : List (Nat × Shape × Value × Value) -> Prop -> Prop
  | [], rest => rest
  | (i, sh, av, v) :: r, rest => cond (Nat.testBit pb i) (Ua pb w r rest) (Ag sh av v w (Ua pb w r rest))
def NH (ops : List Oper) (o : Oper) (env : Env) : Bool :=
  match o.guard with
  | none => true
  | some (j, want) => match (ops[j]?).bind (·.dst) with
    | some s => match env.get s with
      | some (.bool t) => t == want
      | some (.tuple _) => false
      | _ => true
    | none => true
def Io (P : Program) (ops : List Oper) (i : Nat) (o : Oper) (env env' : Env) (ld : List (Nat × Shape × Value × Value)) : List (Nat × Shape × Value × Value) :=
  match o.op, o.dst with
  | .load t x, some d => cond (NH ops o env) (match shapeOf P t with
    | some sh => (i, sh, ev env x, ev env' (.tmp d)) :: ld
    | none => ld) ld
  | _, _ => ld
def allOf {α : Type} (f : α -> Prop) : List α -> Prop
  | [] => True
  | [x] => f x
  | x :: r => f x ∧ allOf f r
def t_ (P : Program) (nt : Nat) (ops : List Oper) (pbs : List Nat) : Nat -> List Nat -> List (Nat × Shape × Value × Value) -> Env -> World -> (Env -> World -> Prop) -> Prop
  | 0, _, _, _, _, _ => False
  | fuel + 1, done, ld, env, w, K =>
    match tZ P done (enumFrom 0 ops) with
    | some (i, o) => nM P nt ops o (QH ops i) env w fun env' w' => t_ P nt ops pbs fuel (i :: done) (Io P ops i o env env' ld) env' w' K
    | none => match zH P done (enumFrom 0 ops) with
      | [] => cond (Nat.beq done.length ops.length) (K env w) False
      | e :: es => allOf (fun (e : Nat × Oper) => nM P nt ops e.2 (QH ops e.1) env w fun env' w' =>
          Ua (pbs.getD e.1 0) w' ld (t_ P nt ops pbs fuel (e.1 :: done) ld env' w' K)) (e :: es)
def QB (ops : List Oper) (o : Oper) : List Nat :=
  (o.op.operands.toList.filterMap fun | .tmp t => some t | _ => none) ++
  (match o.guard with
   | some (g, _) => ((ops[g]?).bind (·.dst)).toList
   | none => [])
def CO : List Nat -> Bool
  | [] => true
  | x :: r => !AL x r && CO r
def Ko (ops : List Oper) (pbs : List Nat) (i : Nat) (o : Oper) : List (Nat × Oper) -> Bool
  | [] => true
  | (j, p) :: r => (match p.dst with
    | some d => Nat.beq i j || !AL d (QB ops o) || (Nat.testBit (pbs.getD i 0) j || Nat.testBit (pbs.getD j 0) i)
    | none => true) && Ko ops pbs i o r
def backOk (i : Nat) (o : Oper) : Bool := o.after.toList.all fun e => !Region.binds .any e || Nat.blt e.on i
def G8 (ops : List Oper) (pbs : List Nat) : Bool :=
  CO (G9 ops) && (enumFrom 0 ops).all fun x => backOk x.1 x.2 && Ko ops pbs x.1 x.2 (enumFrom 0 ops)
def M_ (P : Program) (nt : Nat) (ops : List Oper) (env : Env) (w : World) (K : Env -> World -> Prop) : Prop :=
  cond (G8 ops (vk ops [])) (t_ P nt ops (vk ops []) (ops.length + 1) [] [] env w.drew K) False
end Gp
end
section
namespace Gp
open Go
theorem mX {x : Nat} {l : List Nat} : AL x l = true ↔ x ∈ l := by
  induction l with
  | nil => simp [AL]
  | cons y r ih =>
    simp only [AL]
    by_cases h : y = x
    · subst h; simp
    · have : Nat.beq y x = false := by cases hb : Nat.beq y x; rfl; exact absurd (Nat.eq_of_beq_eq_true hb) h
      simp [this, ih, Ne.symm h]
theorem XL {o : Oper} {i : Nat} : ∀ (l : List Oper) (k : Nat), (i, o) ∈ enumFrom k l ↔ ∃ j, l[j]? = some o ∧ i = k + j := by
  intro l
  induction l with
  | nil => intro k; simp [enumFrom]
  | cons p l ih =>
    intro k
    simp only [enumFrom, List.mem_cons, Prod.mk.injEq, ih]
    constructor
    · rintro (⟨rfl, rfl⟩ | ⟨j, h1, h2⟩)
      · exact ⟨0, by simp, by omega⟩
      · exact ⟨j + 1, by simpa using h1, by omega⟩
    · rintro ⟨j, h1, h2⟩
      cases j with
      | zero => simp at h1; exact .inl ⟨by omega, h1.symm⟩
      | succ j => exact .inr ⟨j, by simpa using h1, by omega⟩
theorem sU {ops : Array Oper} {o : Oper} {i : Nat} : (i, o) ∈ enumFrom 0 ops.toList ↔ ops[i]? = some o := by
  rw [XL]
  constructor
  · rintro ⟨j, h1, h2⟩
    have : i = j := by omega
    subst this
    simpa using h1
  · intro h
    exact ⟨i, by simpa using h, by omega⟩
theorem Pv {P : Program} {done : List Nat} {i : Nat} {o : Oper} : ∀ (l : List (Nat × Oper)), tZ P done l = some (i, o) ->
    (i, o) ∈ l ∧ i ∉ done ∧ vY P o = false ∧ qY done o = true := by
  intro l
  induction l with
  | nil => intro h; simp [tZ] at h
  | cons x l ih =>
    obtain ⟨j, p⟩ := x
    intro h
    simp only [tZ] at h
    cases hb : (!AL j done && (!vY P p && qY done p)) with
    | true =>
      rw [hb] at h
      simp only [cond_true, Option.some.injEq, Prod.mk.injEq] at h
      obtain ⟨rfl, rfl⟩ := h
      simp only [Bool.and_eq_true, Bool.not_eq_true'] at hb
      exact ⟨by simp, fun hm => by rw [mX.2 hm] at hb; simp at hb, hb.2.1, hb.2.2⟩
    | false =>
      rw [hb] at h
      obtain ⟨h1, h2⟩ := ih h
      exact ⟨by simp [h1], h2⟩
theorem Qr {P : Program} {done : List Nat} : ∀ (l : List (Nat × Oper)), tZ P done l = none -> ∀ i o, (i, o) ∈ l -> i ∉ done -> qY done o = true -> vY P o = true := by
  intro l
  induction l with
  | nil => intro _ i o h; cases h
  | cons x l ih =>
    obtain ⟨j, p⟩ := x
    intro h i o hm hd hp
    simp only [tZ] at h
    cases hb : (!AL j done && (!vY P p && qY done p)) with
    | true => rw [hb] at h; simp at h
    | false =>
      rw [hb] at h
      cases hm with
      | head =>
        have : AL j done = false := by cases hx : AL j done; rfl; exact absurd (mX.1 hx) hd
        simp [this, hp] at hb
        exact hb
      | tail _ hm => exact ih h i o hm hd hp
theorem MN {P : Program} {done : List Nat} {i : Nat} {o : Oper} : ∀ (l : List (Nat × Oper)), (i, o) ∈ zH P done l ↔ (i, o) ∈ l ∧ i ∉ done ∧ vY P o = true ∧ qY done o = true := by
  intro l
  induction l with
  | nil => simp [zH]
  | cons x l ih =>
    obtain ⟨j, p⟩ := x
    simp only [zH]
    cases hb : (!AL j done && (vY P p && qY done p)) with
    | true =>
      simp only [Bool.and_eq_true, Bool.not_eq_true'] at hb
      have hnd : j ∉ done := fun hm => by rw [mX.2 hm] at hb; simp at hb
      simp only [cond_true, List.mem_cons, Prod.mk.injEq, ih]
      constructor
      · rintro (⟨rfl, rfl⟩ | h)
        · exact ⟨.inl ⟨rfl, rfl⟩, hnd, hb.2⟩
        · exact ⟨.inr h.1, h.2⟩
      · rintro ⟨h1 | h1, h2⟩
        · exact .inl h1
        · exact .inr ⟨h1, h2⟩
    | false =>
      simp only [cond_false, List.mem_cons, Prod.mk.injEq, ih]
      constructor
      · intro h; exact ⟨.inr h.1, h.2⟩
      · rintro ⟨h1 | h1, h2, h3, h4⟩
        · obtain ⟨rfl, rfl⟩ := h1
          have : AL i done = false := by cases hx : AL i done; rfl; exact absurd (mX.1 hx) h2
          simp [this, h3, h4] at hb
        · exact ⟨h1, h2, h3, h4⟩
theorem WQ {α : Type} {f : α -> Prop} : ∀ (l : List α), allOf f l -> ∀ x ∈ l, f x := by
  intro l
  induction l with
  | nil => intro _ x hx; cases hx
  | cons y r ih =>
    intro h x hx
    cases r with
    | nil => simp at hx; subst hx; exact h
    | cons z r =>
      cases hx with
      | head => exact h.1
      | tail _ hx => exact ih h.2 x hx
def Dir (ops : Array Oper) (j i : Nat) : Prop := ∃ o, ops[i]? = some o ∧ ∃ e ∈ o.after.toList, Region.binds .any e = true ∧ e.on = j
inductive Pre (ops : Array Oper) : Nat -> Nat -> Prop
  | one {j i : Nat} : Dir ops j i -> Pre ops j i
  | tail {j k i : Nat} : Pre ops j k -> Dir ops k i -> Pre ops j i
theorem Rx {acc : List Nat} {j : Nat} : ∀ (es : List Edge), (bitsOf acc es).testBit j = true -> ∃ e ∈ es, Region.binds .any e = true ∧ (e.on = j ∨ (acc.getD e.on 0).testBit j = true) := by
  intro es
  induction es with
  | nil => intro h; simp [bitsOf] at h
  | cons e es ih =>
    intro h
    simp only [bitsOf] at h
    cases hb : Region.binds .any e with
    | false =>
      rw [hb] at h
      obtain ⟨e', h1, h2⟩ := ih h
      exact ⟨e', by simp [h1], h2⟩
    | true =>
      rw [hb] at h
      simp only [cond_true, Nat.testBit_or, Bool.or_eq_true, Nat.testBit_two_pow, decide_eq_true_eq] at h
      rcases h with h | h | h
      · exact ⟨e, by simp, hb, .inl h⟩
      · exact ⟨e, by simp, hb, .inr h⟩
      · obtain ⟨e', h1, h2⟩ := ih h
        exact ⟨e', by simp [h1], h2⟩
theorem Po {ops : Array Oper} : ∀ (l : List Oper) (acc : List Nat), ops.toList.drop acc.length = l -> (∀ i j, (acc.getD i 0).testBit j = true -> Pre ops j i) ->
    ∀ i j, ((vk l acc).getD i 0).testBit j = true -> Pre ops j i := by
  intro l
  induction l with
  | nil => intro acc _ h; exact h
  | cons o l ih =>
    intro acc hl h
    simp only [vk]
    have ho : ops[acc.length]? = some o := by
      have := congrArg (fun l : List Oper => l[0]?) hl
      simpa using this
    refine ih _ ?_ ?_
    · have := congrArg List.tail hl
      simpa [List.tail_drop] using this
    · intro i j hb
      rcases Nat.lt_trichotomy i acc.length with hi | hi | hi
      · rw [List.getD_eq_getElem?_getD, List.getElem?_append_left hi, <- List.getD_eq_getElem?_getD] at hb
        exact h i j hb
      · subst hi
        rw [List.getD_eq_getElem?_getD, List.getElem?_append_right (Nat.le_refl _)] at hb
        simp only [Nat.sub_self, List.getElem?_cons_zero, Option.getD_some] at hb
        obtain ⟨e, h1, h2, h3⟩ := Rx _ hb
        rcases h3 with h3 | h3
        · exact .one ⟨o, ho, e, h1, h2, h3⟩
        · exact .tail (h _ _ h3) ⟨o, ho, e, h1, h2, rfl⟩
      · rw [List.getD_eq_getElem?_getD, List.getElem?_eq_none (by simp; omega)] at hb
        simp at hb
theorem KT {ops : Array Oper} {i j : Nat} (h : ((vk ops.toList []).getD i 0).testBit j = true) : Pre ops j i :=
  Po ops.toList [] rfl (fun i j h => by simp at h) i j h
theorem tJ {ops : Array Oper} {D : Nat -> Prop} (hD : ∀ i j, D i -> Dir ops j i -> D j) {i j : Nat} (h : Pre ops j i) : D i -> D j := by
  induction h with
  | one h => exact fun hi => hD _ _ hi h
  | tail _ h ih => exact fun hi => ih (hD _ _ hi h)
theorem vK {ops : Array Oper} {D : Nat -> Prop} (hD : ∀ i j, D i -> Dir ops j i -> D j) {i : Nat} (hi : ∀ j, Dir ops j i -> D j) {j : Nat} (h : Pre ops j i) : D j := by
  cases h with
  | one h => exact hi _ h
  | tail h1 h2 => exact tJ hD h1 (hi _ h2)
theorem Un : ∀ (ops : List Oper), CO (G9 ops) = true -> ∀ (i j : Nat) (oi oj : Oper) (s : Nat), ops[i]? = some oi -> ops[j]? = some oj -> oi.dst = some s -> oj.dst = some s -> i = j := by
  intro ops
  induction ops with
  | nil => intro _ i j oi oj s hi; simp at hi
  | cons o r ih =>
    intro h i j oi oj s hi hj hsi hsj
    have hmem : ∀ (k : Nat) (x : Oper), r[k]? = some x -> x.dst = some s -> s ∈ G9 r := fun k x hk hx => List.mem_filterMap.2 ⟨x, List.mem_of_getElem? hk, hx⟩
    cases hd : o.dst with
    | none =>
      have h' : CO (G9 r) = true := by simpa [G9, hd] using h
      cases i with
      | zero => simp at hi; subst hi; rw [hd] at hsi; cases hsi
      | succ i => cases j with
        | zero => simp at hj; subst hj; rw [hd] at hsj; cases hsj
        | succ j => rw [ih h' i j oi oj s (by simpa using hi) (by simpa using hj) hsi hsj]
    | some d =>
      have h0 : CO (d :: G9 r) = true := by simpa [G9, hd] using h
      simp only [CO, Bool.and_eq_true, Bool.not_eq_true'] at h0
      have hnd : d ∉ G9 r := fun hm => by rw [mX.2 hm] at h0; simp at h0
      cases i with
      | zero =>
        simp at hi; subst hi
        rw [hd] at hsi; cases hsi
        cases j with
        | zero => rfl
        | succ j => exact absurd (hmem j oj (by simpa using hj) hsj) hnd
      | succ i => cases j with
        | zero =>
          simp at hj; subst hj
          rw [hd] at hsj; cases hsj
          exact absurd (hmem i oi (by simpa using hi) hsi) hnd
        | succ j => rw [ih h0.2 i j oi oj s (by simpa using hi) (by simpa using hj) hsi hsj]
theorem WH (ops : Array Oper) (o : Oper) : QB ops.toList o = o.looksAt ops := by
  unfold QB Oper.looksAt
  congr 1
  cases o.guard <;> simp
theorem Qm {ops : List Oper} {pbs : List Nat} {i : Nat} {o : Oper} : ∀ (l : List (Nat × Oper)), Ko ops pbs i o l = true -> ∀ j p d, (j, p) ∈ l -> p.dst = some d -> d ∈ QB ops o ->
    i = j ∨ (pbs.getD i 0).testBit j = true ∨ (pbs.getD j 0).testBit i = true := by
  intro l
  induction l with
  | nil => intro _ j p d h; cases h
  | cons x l ih =>
    obtain ⟨k, q⟩ := x
    intro h j p d hm hd hl
    simp only [Ko, Bool.and_eq_true] at h
    cases hm with
    | head =>
      rw [hd] at h
      simp only [Bool.or_eq_true, Bool.not_eq_true', Nat.beq_eq] at h
      rcases h.1 with (h1 | h1) | h1
      · exact .inl h1
      · rw [mX.2 hl] at h1; cases h1
      · exact .inr h1
    | tail _ hm => exact ih h.2 j p d hm hd hl
structure ROk (ops : Array Oper) : Prop where
  dst : ∀ (i j : Nat) (oi oj : Oper) (s : Nat), ops[i]? = some oi -> ops[j]? = some oj -> oi.dst = some s -> oj.dst = some s -> i = j
  apart : ∀ (i j : Nat) (oi oj : Oper) (s : Nat), ops[i]? = some oi -> ops[j]? = some oj -> oj.dst = some s -> s ∈ oi.looksAt ops -> i = j ∨ Pre ops j i ∨ Pre ops i j
  back : ∀ i j, Dir ops j i -> j < i
theorem NZ {ops : Array Oper} (h : G8 ops.toList (vk ops.toList []) = true) : ROk ops := by
  simp only [G8, Bool.and_eq_true, List.all_eq_true] at h
  refine ⟨fun i j oi oj s hi hj => Un _ h.1 i j oi oj s (by simpa using hi) (by simpa using hj), fun i j oi oj s hi hj hs hl => ?_, fun i j hd => ?_⟩
  · have := (h.2 (i, oi) (sU.2 hi)).2
    rcases Qm _ this j oj s (sU.2 hj) hs (by rw [WH]; exact hl) with h1 | h1 | h1
    · exact .inl h1
    · exact .inr (.inl (KT h1))
    · exact .inr (.inr (KT h1))
  · obtain ⟨o, ho, e, he, hb, rfl⟩ := hd
    have := (h.2 (i, o) (sU.2 ho)).1
    simp only [backOk, List.all_eq_true, Bool.or_eq_true, Bool.not_eq_true', Nat.blt_eq] at this
    rcases this e he with h1 | h1
    · rw [hb] at h1; cases h1
    · exact h1
end Gp
end
