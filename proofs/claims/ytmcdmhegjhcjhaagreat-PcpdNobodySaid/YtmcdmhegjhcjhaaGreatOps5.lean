import Derived.Test.YtmcdmhegjhcjhaaGreatOps4
import Derived.Lib.ConvBytes
namespace Gp
open Go
section
variable {P : Program}

/-! ### Calls -/
theorem exKs_elim : ∀ (ks : List Kind) (φ : List Value → Prop), exKs ks φ → ∃ vs, φ vs := by
  intro ks
  induction ks with
  | nil => exact fun φ h => ⟨_, h⟩
  | cons k ks ih => rintro φ ⟨x, h⟩; obtain ⟨vs, h⟩ := ih _ h; exact ⟨_, h⟩

theorem shape_elim (s : Shape) (φ : Value → Prop) (h : s.ex φ) : ∃ v, φ v := by
  cases s with
  | one k => obtain ⟨x, h⟩ := h; exact ⟨_, h⟩
  | agg ks => obtain ⟨vs, h⟩ := exKs_elim ks _ h; exact ⟨_, h⟩

theorem exShapes_elim : ∀ (sh : List Shape) (φ : List Value → Prop), exShapes sh φ → ∃ vs, φ vs := by
  intro sh
  induction sh with
  | nil => exact fun φ h => ⟨_, h⟩
  | cons s sh ih => intro φ h; obtain ⟨v, h⟩ := shape_elim s _ h; obtain ⟨vs, h⟩ := ih _ h; exact ⟨_, h⟩

theorem callFunc_run (hP : POk P) {f : FuncId} (hb : hasBody P f = true) (args : Array Value) (w : World) : (callFunc f args).run P w = .ok (.enter f args) w := by
  unfold hasBody at hb
  cases hf : P.funcs[f]? with
  | none => simp [hf] at hb
  | some fn =>
    simp only [hf] at hb
    have hn := hP.enter f fn hf hb
    have hn' : ¬ (fn.name = "runtime.NumGoroutine") := by simpa using hn
    have hb' : ¬ (fn.body = none) := by intro hx; simp [hx] at hb
    simp [callFunc, hf, hn', hb']

theorem callP_ran {sh : List Shape} {f : FuncId} {args : List Value} {w : World} {K : Value → World → Prop} (h : CallP P sh f args w K) :
    Calls P f ⟨args⟩ w fun e w' => ∃ v, e = .returned v ∧ K v w' := by
  refine Calls.mono h fun e w' hx => ?_
  obtain ⟨vs, he, hk⟩ := exShapes_elim _ _ hx
  exact ⟨_, he, hk⟩

theorem callV_ran (hP : POk P) {sh : List Shape} {v : Value} {args : List Value} {w : World} {K : Value → World → Prop} (h : CallV P sh v args w K) :
    Ran P K ((do let d ← Deferred.ofValue v ⟨args⟩; invoke d.target d.args : Sem Next).run P w) := by
  unfold CallV at h
  split at h
  · rename_i f first cap
    cases hb : hasBody P f with
    | false => rw [hb] at h; exact h.elim
    | true =>
      rw [hb] at h
      have h := callP_ran h
      have e : (⟨first.toList ++ (args ++ cap.toList)⟩ : Array Value) = first ++ (⟨args⟩ : Array Value) ++ cap := by apply Array.toList_inj.mp; simp
      rw [e] at h
      simpa [Deferred.ofValue, invoke, callFunc_run hP hb, Ran] using h
  · rename_i l first cap
    obtain ⟨fn, tmps, assign, body, hy, hr⟩ := h
    have e : (⟨first.toList ++ args⟩ : Array Value) = first ++ (⟨args⟩ : Array Value) := by apply Array.toList_inj.mp; simp
    rw [e] at hy
    have : Ran P K (.ok (.round l fn tmps assign body) w) := RoundIn.mono hr fun e w' ⟨b, hb, hk⟩ => ⟨_, hb, hk⟩
    simpa [Deferred.ofValue, invoke, hy] using this
  · exact h.elim

theorem foldMax_run {mx : Bool} {w : World} : ∀ (r : List Value) (x : Int) (k : IntKind) (φ : Value → Prop), foldMax mx x r k φ →
    ∃ v, (r.foldlM (cond mx Builtin.max2 Builtin.min2) (Value.int k x)).run P w = .ok v w ∧ φ v := by
  intro r
  induction r with
  | nil => exact fun x k φ h => ⟨_, by simp, h⟩
  | cons y r ih =>
    intro x k φ h
    cases y with
    | int ky y =>
      simp only [foldMax] at h
      obtain ⟨v, hv, hφ⟩ := ih _ _ _ h
      refine ⟨v, ?_, hφ⟩
      cases mx <;> simp only [cond_true, cond_false] at hv ⊢ <;> simp [List.foldlM_cons, Builtin.max2, Builtin.min2, hv]
    | _ => simp [foldMax] at h

theorem lenDen_run {d : TypeDesc} {t ty : TypeId} {x : Value} {w : World} {φ : Int → Prop} (ht : P.underlying t = some d) (h : lenDen d x w φ) :
    ∃ n, (Builtin.len_ #[t] ty #[x]).run P w = .ok (.int .i64 n) w ∧ φ n := by
  unfold lenDen at h
  split at h
  · exact ⟨_, by simp [Builtin.len_, run_underlying ht, goInt], h⟩
  · exact ⟨_, by simp [Builtin.len_, run_underlying ht, goInt], h⟩
  · exact ⟨_, by simp [Builtin.len_, run_underlying ht, goInt], h⟩
  · unfold MapLen at h
    split at h
    · exact ⟨_, by simp [Builtin.len_, run_underlying ht, goInt], h⟩
    · obtain ⟨es, clock, hb, h⟩ := h
      exact ⟨_, by simp [Builtin.len_, run_underlying ht, goInt, getObj, Sem.run, hb], h⟩
  · exact h.elim

theorem ran_value {K : Value → World → Prop} {s : Sem Value} {w w' : World} {v : Value} (hr : s.run P w = .ok v w') (hk : K v w') :
    Ran P K ((do pure (Next.value (← s)) : Sem Next).run P w) := by
  simp only [Sem.run_bind, hr, Result.andThen_ok, Sem.run_pure, Ran]; exact hk

theorem ran_unit {K : Value → World → Prop} {s : Sem Unit} {w w' : World} (hr : s.run P w = .ok () w') (hk : K undef w') :
    Ran P K ((do s; pure Next.skip : Sem Next).run P w) := by
  simp only [Sem.run_bind, hr, Result.andThen_ok, Sem.run_pure, Ran]; exact hk

theorem builtin_ran {b : Builtin} {args : List Value} {tl : List TypeId} {ty : TypeId} {consts : Array Bool} {w : World} {K : Value → World → Prop} (h : builtinDen P b tl args w K) :
    Ran P K ((builtin b ⟨tl⟩ ty consts ⟨args⟩).run P w) := by
  unfold builtinDen at h
  split at h
  · split at h
    · rename_i ht
      obtain ⟨n, hr, hk⟩ := lenDen_run (ty := ty) ht h
      simp [builtin, hr, Ran, hk]
    · exact h.elim
  · split at h
    · rename_i ht
      simp [builtin, Builtin.cap_, run_underlying ht, goInt, Ran, h]
    · exact h.elim
  · obtain ⟨v, hr, hk⟩ := foldMax_run (P := P) (w := w) _ _ _ _ h
    simp only [cond_true] at hr
    simp [builtin, Builtin.max_, hr, Ran, hk]
  · obtain ⟨v, hr, hk⟩ := foldMax_run (P := P) (w := w) _ _ _ _ h
    simp only [cond_false] at hr
    simp [builtin, Builtin.min_, hr, Ran, hk]
  · split at h
    · rename_i e d ht ht'
      split at h
      · rename_i _ b n m hs hb hz
        obtain ⟨i, hi, rfl⟩ := sizeOf?_info hs
        obtain ⟨i', hi', rfl⟩ := bytesOf?_info hb
        obtain ⟨i'', z, hi'', hz0, rfl⟩ := zeroCells?_info hz
        rw [hi] at hi' hi''; cases hi'; cases hi''
        obtain ⟨vs, hvs, h⟩ := h
        obtain ⟨s', w', hr, hk⟩ := app_sound (ty := ty) ht hi hz0 ht' (.inl ⟨_, rfl⟩) (x := .slice b n m) (n := n) (fun w => by simp [Builtin.lenOf]) (cellsO_first hvs) (cellsO_first (cellsO_drew hvs)) h
        show Ran P K ((do pure (Next.value (← Builtin.append_ #[_, _] ty #[_, _])) : Sem Next).run P w)
        exact ran_value hr hk
      · rename_i hs hb hz
        obtain ⟨i, hi, rfl⟩ := sizeOf?_info hs
        obtain ⟨i', hi', rfl⟩ := bytesOf?_info hb
        obtain ⟨i'', z, hi'', hz0, rfl⟩ := zeroCells?_info hz
        rw [hi] at hi' hi''; cases hi'; cases hi''
        have hf : ∀ (sz : Nat) (s : ByteArray) (w : World), (Builtin.firstCells sz s.size (.string s)).run P w = .ok ⟨byteCells s⟩ w := by
          intro sz s w
          simp only [Builtin.firstCells, Sem.run_pure, Result.ok.injEq, and_true]
          apply Array.toList_inj.mp
          have e : s.extract 0 s.size = s := ByteArray.extract_zero_size
          rw [e, Array.toList_map]
          rfl
        obtain ⟨s', w', hr, hk⟩ := app_sound (ty := ty) ht hi hz0 ht' (.inr rfl) (fun w => by simp [Builtin.lenOf]) (hf _ _ _) (hf _ _ _) h
        show Ran P K ((do pure (Next.value (← Builtin.append_ #[_, _] ty #[_, _])) : Sem Next).run P w)
        exact ran_value hr hk
      · rename_i hs hb hz
        obtain ⟨i, hi, rfl⟩ := sizeOf?_info hs
        obtain ⟨i', hi', rfl⟩ := bytesOf?_info hb
        obtain ⟨i'', z, hi'', hz0, rfl⟩ := zeroCells?_info hz
        rw [hi] at hi' hi''; cases hi'; cases hi''
        cases hb : Nat.beq z.cells.toList.length i.size with
        | false => rw [hb] at h; exact h.elim
        | true =>
          rw [hb] at h
          simp only [cond_true] at h
          obtain ⟨s', w', hr, hk⟩ := appMk_sound (ty := ty) ht hi hz0 (Nat.eq_of_beq_eq_true hb) ht' h
          show Ran P K ((do pure (Next.value (← Builtin.append_ #[_, _] ty #[_, _])) : Sem Next).run P w)
          exact ran_value hr hk
      · exact h.elim
    · exact h.elim
  · split at h
    · rename_i e ht
      split at h
      · rename_i hs
        obtain ⟨i, hi, rfl⟩ := sizeOf?_info hs
        obtain ⟨n, w', hr, hk⟩ := copy_sound (t' := _) (ty := ty) ht hi h
        show Ran P K ((do pure (Next.value (← Builtin.copy_ #[_, _] ty #[_, _])) : Sem Next).run P w)
        exact ran_value hr hk
      · exact h.elim
    · exact h.elim
  · split at h
    · rename_i e ht
      split at h
      · rename_i hs hz
        obtain ⟨i, hi, rfl⟩ := sizeOf?_info hs
        obtain ⟨i'', z, hi'', hz0, rfl⟩ := zeroCells?_info hz
        rw [hi] at hi''; cases hi''
        cases hb : Nat.beq z.cells.toList.length i.size with
        | false => rw [hb] at h; exact h.elim
        | true =>
          rw [hb] at h
          simp only [cond_true] at h
          obtain ⟨w', hr, hk⟩ := clear_sound (ty := ty) ht hi hz0 (Nat.eq_of_beq_eq_true hb) h
          show Ran P K ((do pure (Next.value (← Builtin.clear_ #[_] ty #[_])) : Sem Next).run P w)
          exact ran_value hr hk
      · exact h.elim
    · exact h.elim
  · split at h
    · rename_i kt et ht
      obtain ⟨w', hr, hk⟩ := MapDel_run (t' := _) (ty := ty) ht h
      show Ran P K ((do pure (Next.value (← Builtin.delete_ ⟨[_, _]⟩ ty ⟨[_, _]⟩)) : Sem Next).run P w)
      exact ran_value hr hk
    · exact h.elim
  · exact h.elim

/-! ### The theorem -/
theorem map_pairs (ρ : Operand → Value) (ps : Array (Nat × Operand)) : (ps.map fun (i, x) => (i, ρ x)).toList = ps.toList.map fun p => (p.1, ρ p.2) := by
  simp

theorem freeze_alloc (w : World) (cs : Array Value) (e : TypeId) (n : Nat) : (w.alloc (.cells cs e)).freeze ⟨w.heap.size, n, none⟩ 1 = w.alloc (.cells cs e (n, n + 1)) := by
  unfold World.freeze World.alloc
  simp only [Nat.succ_ne_zero, if_false]
  congr 1
  apply Array.ext_getElem?
  intro i
  rw [Array.getElem?_modify]
  by_cases h : w.heap.size = i
  · subst h; simp
  · simp [h, Ne.symm h, Array.getElem?_push]

theorem bytesWorld_eq (w : World) (e : TypeId) (s : ByteArray) :
    Lib.bytesWorld w e s = w.drew.alloc (.cells ⟨byteCells s ++ repCells [.int .u8 0] (grownCap w s.size 0 e - s.size)⟩ e (grownCap w s.size 0 e, grownCap w s.size 0 e + 1)) := by
  have hrep : ∀ n, repCells [.int .u8 0] n = List.replicate n (.int .u8 0) := by
    intro n
    induction n with
    | zero => rfl
    | succ n ih => simp [repCells, ih, List.replicate_succ]
  have hc : Lib.bytesCells w e s = ⟨byteCells s ++ repCells [.int .u8 0] (grownCap w s.size 0 e - s.size)⟩ := by
    apply Array.toList_inj.mp
    simp [Lib.bytesCells, byteCells, hrep]
  have hn : (Lib.bytesCells w e s).size = grownCap w s.size 0 e := by
    have := grownCap_ge w s.size 0 e
    have h2 : s.data.size = s.size := rfl
    simp [Lib.bytesCells, h2]; omega
  unfold Lib.bytesWorld
  rw [hn, ← hc]
  exact freeze_alloc w.drew _ e _

theorem opDen_sound (hP : POk P) {o : Oper} {ρ : Operand → Value} {w : World} {K : Value → World → Prop} (hρ : ∀ f, ρ (.func f) = .func (.func f) #[] #[]) (h : opDen P o ρ w K) : Ran P K ((execOp ρ o).run P w) := by
  obtain ⟨dst, op, type, pos, after, guard⟩ := o
  cases op <;> simp only [opDen] at h <;> simp only [execOp]
  case move x => exact h
  case assign x => exact h
  case pick c a b =>
    split at h
    · rename_i t hc
      cases t <;> simp only [cond_true, cond_false] at h <;> simp [asBool, hc, Ran, h]
    · exact h.elim
  case alloc e =>
    split at h
    · rename_i z hz
      obtain ⟨v, hr, hv⟩ := zeroCells?_run (w := w) hz
      refine ran_value (v := nextP w) (w' := w.alloc (.cells ⟨z⟩ e)) ?_ h
      simp [Instr.alloc, hr, newVar, newRow, hv]
    · exact h.elim
  case box e x =>
    split at h
    · refine ran_value ?_ h.2
      simp [Instr.box, newVar, newRow, isOne_cells h.1]
    · split at h
      · rename_i cs hc
        refine ran_value ?_ h
        simp [Instr.box, newVar, newRow, Value.cells, hc]
      · exact h.elim
    · exact h.elim
  case build t ps =>
    split at h
    · rename_i z fs hz ht
      obtain ⟨v, hr, hv⟩ := zeroCells?_run (w := w) hz
      split at h
      · rename_i pl hpl
        split at h
        · rename_i cs hf
          refine ran_value ?_ h
          have hp := placesOf_run (w := w) _ _ hpl
          have hm : (fs.mapM fun (f : Field) => (do pure (f.offset, ← Go.sizeOf f.type) : Sem (Nat × Nat))).run P w = .ok ⟨pl⟩ w := by
            rw [Array.mapM_eq_mapM_toList, Sem.run_map, hp]; rfl
          have hfill := fillL_fill _ (fun i => (⟨pl⟩ : Array (Nat × Nat))[i]?) (fun i x hx => by simpa using hx) _ _ _ hf
          simp only [Instr.build, Sem.run_bind, hr, Result.andThen_ok, run_underlying ht, hm, hv, map_pairs]
          rw [hfill]
          rfl
        · exact h.elim
      · exact h.elim
    · rename_i z n e hz ht
      obtain ⟨v, hr, hv⟩ := zeroCells?_run (w := w) hz
      split at h
      · rename_i size hs
        split at h
        · rename_i cs hf
          refine ran_value ?_ h
          have hfill := fillL_fill _ (fun i => some (i * size, size)) (fun i x hx => hx) _ _ _ hf
          simp only [Instr.build, Sem.run_bind, hr, Result.andThen_ok, run_underlying ht, sizeOf?_run hs, hv, map_pairs]
          rw [hfill]
          rfl
        · exact h.elim
      · exact h.elim
    · exact h.elim
  case buildSlice t n ps =>
    split at h
    · rename_i e ht
      split at h
      · rename_i size z hs hz
        obtain ⟨v, hr, hv⟩ := zeroCells?_run (w := w) hz
        cases hb : (Nat.ble (n * size) 4096 && Nat.beq z.length size) with
        | false => rw [hb] at h; exact h.elim
        | true =>
          rw [hb] at h
          simp only [Bool.and_eq_true, Nat.ble_eq, Nat.beq_eq] at hb
          obtain ⟨b1, b2⟩ := hb
          simp only [cond_true] at h
          obtain ⟨cs, hf, h⟩ := fillA h
          · refine ran_value ?_ h
            have hfill := fillL_fill _ (fun i => some (i * size, size)) (fun i x hx => hx) _ _ _ hf
            have hz2 : (Array.range (n * size)).map (fun i => v.cells[i % v.cells.size]!) = ⟨repCells z n⟩ := by
              have := zeroCells_eq v.cells n
              rw [hv] at this ⊢
              simp only [Builtin.zeroCells, List.size_toArray, b2] at this ⊢
              exact this
            have c1 : ¬ (n * size > 2 ^ 24) := by omega
            by_cases c2 : n * size = 0
            · have hrep : repCells z n = [] := by
                have := repCells_length z n
                rw [b2, c2] at this
                exact List.length_eq_zero_iff.1 this
              rw [hrep] at hfill
              have hfill' : Instr.fill (fun i => some (i * size, size)) #[] (ps.toList.map fun p => (p.1, ρ p.2)) = some ⟨cs⟩ := hfill
              have c1' : ¬ (0 > 2 ^ 24) := by decide
              simp only [Instr.buildSlice, Sem.run_bind, run_underlying ht, Result.andThen_ok, sizeOf?_run hs, c2, if_true, map_pairs, c1', if_false, Sem.run_pure, Array.range_zero', Array.map_empty, hfill']
              rfl
            · simp only [Instr.buildSlice, Sem.run_bind, run_underlying ht, Result.andThen_ok, sizeOf?_run hs, c1, if_false, c2, map_pairs, hr, Sem.run_pure]
              rw [hz2, hfill]
              rfl
      · exact h.elim
    · exact h.elim
  case load t x =>
    split at h
    · rename_i a sh n hx hs hn
      cases hb : Nat.beq sh.cells n with
      | false => rw [hb] at h; exact h.elim
      | true =>
        rw [hb] at h
        obtain ⟨v, hr, hk⟩ := run_loadVar hs hn (Nat.eq_of_beq_eq_true hb) h
        exact ran_value (by simp [Instr.loadAt, Instr.sureAddr, hx, hr]) hk
    · exact h.elim
  case store t x y =>
    split at h
    · rename_i a k n hx hs hn
      cases hb : Nat.beq n 1 with
      | false => rw [hb] at h; exact h.elim
      | true =>
        rw [hb] at h
        have hb := Nat.eq_of_beq_eq_true hb
        subst hb
        obtain ⟨hr, hk⟩ := St_run (P := P) h
        refine ran_unit (w' := w.setCell a (ρ y)) ?_ hk
        have h1 := isOne_cells h.1
        simp [Instr.storeAt, Instr.sureAddr, hx, storeVar, h1, sizeOf?_run hn, storeCells, add_zero', hr]
    · rename_i a ks n hx hs hn
      split at h
      · rename_i cs hy
        cases hb : Nat.beq cs.toList.length n with
        | false => rw [hb] at h; exact h.elim
        | true =>
          rw [hb] at h
          have hb := Nat.eq_of_beq_eq_true hb
          obtain ⟨w', hr, hk⟩ := StN_run (P := P) _ _ _ h
          refine ran_unit (w' := w') ?_ hk
          have hl : cs.size = n := by simpa using hb
          simp [Instr.storeAt, Instr.sureAddr, hx, hy, storeVar, Value.cells, sizeOf?_run hn, hl, hr]
      · exact h.elim
    · exact h.elim
  case nilCheck x =>
    split at h
    · rename_i q hx
      obtain ⟨a, rfl, hk⟩ := h
      simp only [hx]
      exact hk
    · exact h.elim
  case binOp op t x y yt =>
    obtain ⟨v, hr, hk⟩ := binOpDen_run x y (w := w) h
    exact ran_value hr hk
  case unOp op t x =>
    obtain ⟨v, hr, hk⟩ := unOpDen_run (P := P) (w := w) h
    exact ran_value hr hk
  case convert s d x =>
    split at h
    · rename_i e a n c hs hd hx
      split at h
      · rename_i he
        obtain ⟨b, hr, hk⟩ := bytesStr_sound (P := P) h
        refine ran_value ?_ hk
        rw [hx, run_convert_bytes_string w s d e a n c hs he hd]
        exact hr
      · exact h.elim
    · rename_i e b hs hd hx
      split at h
      · rename_i he
        have hr := Lib.run_convert_string_bytes w s d e b hs hd he
        have hc := h.2 (grownCap w b.size 0 e) (by have := grownCap_ge w b.size 0 e; omega) (by
          simp only [grownCap, Question.cut]
          have h1 := h.1
          have := Nat.mod_lt (w.tape w.drawn (.appendCap b.size 0 e)) (show 0 < 2 ^ 63 - b.size by omega)
          omega)
        rw [← bytesWorld_eq] at hc
        exact ran_value (by rw [hx]; exact hr) hc
      · exact h.elim
    · rename_i e' e a n c hs hd hx
      split at h
      · rename_i he hb
        obtain ⟨T, m, hsh, hk⟩ := h
        refine ran_value ?_ hk
        have hsd : s = d := Nat.eq_of_beq_eq_true hb
        subst hsd
        have hee : e' = e := by rw [hd] at hs; cases hs; rfl
        subst hee
        rw [hx]
        simp [convert, run_underlying hd, run_underlying he, markStringish, hsh]
      · exact h.elim
    · rename_i n1 n2 n3
      unfold convDen at h
      split at h
      · rename_i u k n hs hd hx
        refine ran_value ?_ h
        simp [convert, hx, run_underlying hs, run_underlying hd, Conv.intToInt]
      · rename_i b hs hd hx
        refine ran_value ?_ h
        simp [convert, hx, run_underlying hs, run_underlying hd]
      · exact h.elim
  case makeFunc fn first cap =>
    rw [arr_map, arr_map]
    exact h
  case lookup t x i ok =>
    cases ok with
    | true =>
      simp only at h
      split at h
      case h_2 => exact h.elim
      rename_i kt et r ht hx
      split at h
      case h_2 => exact h.elim
      rename_i sh z hs hz
      obtain ⟨v, b, hr, hk⟩ := MapGetV_run ht hz h true
      obtain ⟨v', rfl, hk⟩ := shape_elim _ _ hk
      exact ran_value (by rw [hx]; exact hr) hk
    | false =>
      simp only at h
      split at h
      case h_2 => exact h.elim
      rename_i kt et r ht hx
      split at h
      case h_3 => exact h.elim
      case h_1 =>
        rename_i k z hs hz
        obtain ⟨x', hr, hk⟩ := MapGet_run ht hz h
        exact ran_value (by rw [hx]; exact hr) hk
      case h_2 =>
        rename_i ks z hs hz
        obtain ⟨v, b, hr, hk⟩ := MapGetV_run ht hz h false
        obtain ⟨v', rfl, hk⟩ := shape_elim _ _ hk
        exact ran_value (by rw [hx]; exact hr) hk
  case mapUpdate t x i v =>
    split at h
    case h_2 => exact h.elim
    rename_i kt et r ht hx
    obtain ⟨w', hr, hk⟩ := MapSet_run ht h
    exact ran_unit (by rw [hx]; exact hr) hk
  case mapEntry t x i =>
    split at h
    case h_2 => exact h.elim
    rename_i kt et r ht hx
    split at h
    · rename_i z hz
      obtain ⟨v, n, w', hr, hk⟩ := MapEnt_run ht hz h
      exact ran_value (by rw [hx]; exact hr) hk
    · exact h.elim
  case entryStore t x st v =>
    split at h
    · rename_i r k n hx hst
      obtain ⟨w', hr, hk⟩ := EntSt_run (t := t) (k := k) h
      exact ran_unit (by rw [hx, hst]; exact hr) hk
    · exact h.elim
  case makeMap t r =>
    cases r with
    | some r => exact h.elim
    | none => exact ran_value (by simp [Instr.makeMap]) h
  case makeSlice t l c =>
    split at h
    · rename_i e kl n kc m ht hl hc
      split at h
      · rename_i size bytes z hs hb hz
        obtain ⟨i, hi, rfl⟩ := sizeOf?_info hs
        obtain ⟨i', hi', rfl⟩ := bytesOf?_info hb
        obtain ⟨i'', z, hi'', hz0, rfl⟩ := zeroCells?_info hz
        rw [hi] at hi' hi''; cases hi'; cases hi''
        cases hb : Nat.beq z.cells.toList.length i.size with
        | false => rw [hb] at h; exact h.elim
        | true =>
          rw [hb] at h
          simp only [cond_true] at h
          obtain ⟨s, w', hr, hk⟩ := make_sound ht hi hz0 (Nat.eq_of_beq_eq_true hb) h
          exact ran_value (by rw [hl, hc]; exact hr) hk
      · exact h.elim
    · exact h.elim
  case slice t x lo hi mx =>
    obtain ⟨v, hr, hk⟩ := sliceDen_run (w := w) h
    exact ran_value hr hk
  case fieldAddr t x f =>
    split at h
    · rename_i fs a ht hx
      split at h
      · rename_i off size hf
        cases hb : Nat.beq size 0 with
        | true => rw [hb] at h; exact h.elim
        | false =>
          rw [hb] at h
          obtain ⟨fd, h1, h2⟩ := fieldPlace_run (w := w) hf hb a
          exact ran_value (by simp [Instr.fieldAt, run_underlying ht, h1, Instr.sureAddr, hx, h2]) h
      · exact h.elim
    · exact h.elim
  case field t x f =>
    split at h
    · rename_i fs cs ht hx
      split at h
      · rename_i fd hf
        split at h
        · rename_i d size hd hs
          obtain ⟨v, hr, hk⟩ := part_run (w := w) hd hs h
          have hf' : fs[f]? = some fd := by simpa using hf
          exact ran_value (by simp [Instr.field, run_underlying ht, hf', hx, asAgg, hr]) hk
        · exact h.elim
      · exact h.elim
    · exact h.elim
  case indexAddr t x i =>
    split at h
    · rename_i e a n c k i' ht hx hi
      split at h
      · rename_i size hs
        obtain ⟨a', h1, h2, h3, hk⟩ := h
        simp only at h1 h2 h3 hk
        subst h1
        refine ran_value ?_ hk
        simp [Instr.indexAt, hi, hx, asIntOf, run_underlying ht, sizeOf?_run hs, h2, h3]
      · exact h.elim
    · rename_i n e a k i' ht hx hi
      split at h
      · rename_i size hs
        obtain ⟨h2, h3, hk⟩ := h
        refine ran_value ?_ hk
        simp [Instr.indexAt, hi, hx, asIntOf, run_underlying ht, sizeOf?_run hs, h2, h3, Instr.sureAddr]
      · exact h.elim
    · exact h.elim
  case index t x i =>
    split at h
    · rename_i s k i' ht hx hi
      obtain ⟨b, h1, h2, hk⟩ := h
      refine ran_value ?_ hk
      simp [Instr.index, hi, hx, asIntOf, run_underlying ht, h1, h2]
    · rename_i n e cs k i' ht hx hi
      split at h
      · rename_i d size hd hs
        obtain ⟨h1, h2, h⟩ := h
        obtain ⟨v, hr, hk⟩ := part_run (w := w) hd hs h
        refine ran_value ?_ hk
        simp [Instr.index, hi, hx, asIntOf, run_underlying ht, sizeOf?_run hs, h1, h2, hr]
      · exact h.elim
    · exact h.elim
  case extract t i =>
    split at h
    · rename_i vs ht
      split at h
      · rename_i v hv
        have hv' : vs[i]? = some v := by simpa using hv
        split at h
        · obtain ⟨x, hx, h⟩ := dec_elim h
          refine ran_value ?_ h
          rw [← hx]
          simp [Instr.extract, ht, hv']
        · refine ran_value ?_ h
          simp [Instr.extract, ht, hv']
      · exact h.elim
    · exact h.elim
  case range t x =>
    split at h
    · rename_i kt et r ht hx
      rcases h with ⟨rfl, h⟩ | ⟨b, es, clock, rfl, hb, h⟩
      · exact ran_value (by rw [hx]; simp [Instr.range, run_underlying ht]) h
      · exact ran_value (by rw [hx]; simp [Instr.range, run_underlying ht, MapKept.run_getObj_map hb]) h
    · exact h.elim
  case next x s =>
    cases s with
    | true => exact h.elim
    | false =>
    simp only at h
    split at h
    · rename_i a hx
      obtain ⟨h0, h⟩ := h
      rcases h with ⟨s, sn, c, hr, h⟩ | ⟨b, since, seen, c0, es, clock, hr, hb, hold, hsc, hend, hstep⟩
      · refine ran_value ?_ h
        rw [hx, h0]
        simp [Instr.next, getObj, Sem.run, hr, Result.andThen]
      · rcases run_next_at (P := P) w _ a.block b since c0 seen es clock hr hb hold hsc with ⟨h1, h2⟩ | ⟨e, he, w1, hw1, h2⟩
        · exact ran_value (by rw [hx, h0]; exact h2) (hend h1)
        · exact ran_value (by rw [hx, h0]; exact h2) (hstep e he w1 hw1)
    · exact h.elim
  case entry x =>
    split at h
    · rename_i a hx
      obtain ⟨h0, b, since, seen, es, clock, e, hr, hb, he, hn, h⟩ := h
      exact ran_value (by rw [hx, h0]; exact run_entry_at (P := P) w a.block b since seen es clock e hr hb he hn) h
    · exact h.elim
  case call c =>
    have hargs : c.args.map ρ = ⟨c.args.toList.map ρ⟩ := arr_map _ _
    split at h
    · rename_i f hc
      split at h
      · rename_i sh hsh
        cases hb : hasBody P f with
        | false =>
          rw [hb] at h
          obtain ⟨v, w', hr, hk⟩ := h
          obtain ⟨vs, rfl, hk'⟩ := exShapes_elim _ _ hk
          have hev : ρ (.func f) = .func (.func f) #[] #[] := hρ f
          simp only [resolve, hc, hev, Deferred.ofValue, hargs]
          simpa [invoke, hr, Ran] using hk'
        | true =>
          rw [hb] at h
          have h := callP_ran h
          have hev : ρ (.func f) = .func (.func f) #[] #[] := hρ f
          simp only [resolve, hc, hev, Deferred.ofValue, hargs]
          simpa [invoke, callFunc_run hP hb, Ran] using h
      · exact h.elim
    · rename_i x hx hc
      split at h
      · rename_i sh hsh
        have := callV_ran hP h
        simp only [resolve, hc, hargs]
        refine Ran.mono (fun r w' hr => ?_) this
        obtain ⟨vs, rfl, hk⟩ := exShapes_elim _ _ hr
        exact hk
      · exact h.elim
    · rename_i b hc
      simp only [resolve, hc, hargs]
      exact builtin_ran (tl := c.argTypes.toList) h
    · exact h.elim
  all_goals exact h.elim
end
end Gp
