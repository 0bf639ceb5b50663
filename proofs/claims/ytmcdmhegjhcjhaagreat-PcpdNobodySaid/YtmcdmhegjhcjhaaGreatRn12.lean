import Derived.Test.YtmcdmhegjhcjhaaGreatRn11
/- A machine that runs closed code over named blocks: one operation, whole. -/
namespace Gp.Rn
open Go Gp

section
variable {lp : Bool} {w0 w : World} {ρ ρ0 : Nm} {s : St} {P : Program} {k : AV → St → Bool} {K : Value → World → Prop} {cb : Cb}

theorem opC_ok {o : Oper} {α : Operand → AV} {β : Operand → Value} (hcb : CbOk lp P w0 ρ0 cb) (h : opC P cb o.op o.type α s k = true) (hl : Le ρ0 ρ) (hr : Rel w0 ρ s w) (hab : ∀ x ∈ o.op.operands.toList, VR ρ (α x) (β x)) (hK : KK lp w0 ρ s w k K) : opDen P o β w K := by
  unfold opDen
  generalize hop : o.op = op at h hab ⊢
  unfold opC at h
  cases op with
  | move x => exact hK.pure hr h (hab x (by simp [Op.operands]))
  | assign x => exact hK.pure hr h (hab x (by simp [Op.operands]))
  | pick c a b => exact pickC_ok h hr (hab c (by simp [Op.operands])) (hab a (by simp [Op.operands])) (hab b (by simp [Op.operands])) hK
  | alloc e => exact allocC_ok h hr hK
  | box e x => exact boxC_ok h hr (hab x (by simp [Op.operands])) hK
  | build t ps => exact buildC_ok h (PsR.of fun x hx => hab x.2 (by simp only [Op.operands]; exact List.mem_map_of_mem hx)) (hK.kp hr)
  | buildSlice t n ps =>
    have := buildSC_ok h hr (PsR.of fun x hx => hab x.2 (by simp only [Op.operands]; exact List.mem_map_of_mem hx)) hK
    rw [List.map_map] at this
    exact this
  | load t x => exact ldC_ok h hr (hab x (by simp [Op.operands])) hK
  | store t x y => exact stC_ok h hr (hab x (by simp [Op.operands])) (hab y (by simp [Op.operands])) hK
  | nilCheck x =>
    have hx := hab x (by simp [Op.operands])
    unfold nlC at h
    dsimp only at h ⊢
    split at h
    · rename_i i a ha
      rw [ha] at hx
      generalize β x = v at hx
      cases hx with
      | ptr hx => exact ⟨_, rfl, hK.pure hr h (.ptr hx)⟩
    · cases h
  | binOp op t x y yt => exact binC_ok h (hab x (by simp [Op.operands])) (hab y (by simp [Op.operands])) (hK.kp hr)
  | unOp op t x => exact unC_ok h (hab x (by simp [Op.operands])) (hK.kp hr)
  | convert sd d x =>
    have := convC_ok h hr (hab x (by simp [Op.operands])) hK
    exact this
  | makeFunc fn first cap =>
    unfold mkfC at h
    dsimp only at h ⊢
    split at h
    · exact hK.pure hr h (.fn _ (VsR.map fun x hx => hab x (by simp [Op.operands]; exact .inl (by simpa using hx))) (VsR.map fun x hx => hab x (by simp [Op.operands]; exact .inr (by simpa using hx))))
    · cases h
  | lookup t x i c =>
    have := lookC_ok h hr (hab x (by simp [Op.operands])) (hab i (by simp [Op.operands])) hK
    cases c with
    | true => exact this
    | false => exact this
  | mapUpdate t x i v =>
    unfold updC at h
    dsimp only at h ⊢
    split at h
    · rename_i kt et ht
      obtain ⟨r, hr1, hm⟩ := setC_ok (φ := fun w' => K undef w') h hr (hab x (by simp [Op.operands])) (hab i (by simp [Op.operands])) (hab v (by simp [Op.operands])) fun s' w' hk r1 l1 => hK.of hk (Le.refl ρ) r1 (.tup .nil) l1
      rw [ht, hr1]
      exact hm
    · cases h
  | mapEntry t x i => exact mentC_ok h hr (hab x (by simp [Op.operands])) (hab i (by simp [Op.operands])) hK
  | entryStore t x st v => exact mstC_ok h hr (hab x (by simp [Op.operands])) (hab st (by simp [Op.operands])) (hab v (by simp [Op.operands])) hK
  | makeMap t r =>
    cases r with
    | some r => cases h
    | none =>
      dsimp only at h ⊢
      unfold mkmC at h
      obtain ⟨i, s', h, q0, q1, q2⟩ := newB_ok h
      obtain ⟨r1, r2, r3⟩ := hr.alloc (x := ⟨w.heap.size, 0, fun _ _ _ => False⟩) (o := .map #[] 0) q0 q1 q2 rfl fun ρ' _ _ => ⟨[], World.alloc_heap_new w _, .nil⟩
      exact hK.of h r2 r1 (VR.map (upd_self ρ i _)) r3
  | makeSlice t l c =>
    have hx := hab l (by simp [Op.operands])
    have hy := hab c (by simp [Op.operands])
    unfold mksC at h
    dsimp only at h ⊢
    split at h
    · rename_i e k1 n k2 m ht h1 h2
      rw [h1] at hx
      rw [h2] at hy
      rw [ht]
      generalize β l = v1 at hx
      generalize β c = v2 at hy
      cases hx
      cases hy
      dsimp only
      split at h
      · rename_i size bytes z hs hb hz
        obtain ⟨zs, z1, z2⟩ := zerosA_ok (ρ := ρ) hz
        rw [hs, hb, z1]
        dsimp only
        obtain ⟨g, h⟩ := cond_ok h
        rw [Bool.and_eq_true, Bool.and_eq_true, Bool.and_eq_true] at g
        obtain ⟨g1, g2, g3, g4⟩ := g
        rw [z2.len] at g1
        rw [g1, cond_true]
        have g2 := Nat.le_of_ble_eq_true g2
        have g3 := Nat.le_of_ble_eq_true g3
        have g4 := Nat.le_of_ble_eq_true g4
        obtain ⟨i, s', h, q0, q1, q2⟩ := newB_ok h
        obtain ⟨r1, r2, r3⟩ := hr.newRow0 (z2.rep m) q0 q1 q2 e
        refine ⟨Int.natCast_nonneg _, ?_, ?_, ?_, hK.of h r2 r1 (VR.sl (upd_self ρ i _)) r3⟩
        · show (n : Int) ≤ (m : Int)
          omega
        · show (m : Int) ≤ 2 ^ 62
          omega
        · show (bytes : Int) * (m : Int) ≤ 2 ^ 48
          omega
      · cases h
    · cases h
  | slice t x lo hi mx =>
    refine sliceC_ok h hr (hab x (by simp [Op.operands])) (fun o ho => hab o ?_) (fun o ho => hab o ?_) (fun o ho => hab o ?_) (hK.kp hr)
    · subst ho; simp [Op.operands]
    · subst ho; simp [Op.operands]
    · subst ho; simp [Op.operands]
  | fieldAddr t x f => exact faC_ok h (hab x (by simp [Op.operands])) (hK.kp hr)
  | field t x f => exact fdC_ok h (hab x (by simp [Op.operands])) (hK.kp hr)
  | indexAddr t x i => exact iaC_ok h (hab x (by simp [Op.operands])) (hab i (by simp [Op.operands])) (hK.kp hr)
  | index t x i => exact ixC_ok h (hab x (by simp [Op.operands])) (hab i (by simp [Op.operands])) (hK.kp hr)
  | extract t i => exact exC_ok h (hab t (by simp [Op.operands])) (hK.kp hr)
  | range t x => exact rgC_ok h hr (hab x (by simp [Op.operands])) hK
  | next x b =>
    cases b with
    | true => cases h
    | false => exact nextC_ok h hr (hab x (by simp [Op.operands])) hK
  | entry x => exact entryC_ok h hr (hab x (by simp [Op.operands])) (hK.kp hr)
  | call c =>
    have hargs : VsR ρ (c.args.toList.map α) (c.args.toList.map β) := VsR.map fun x hx => hab x (by simp [Op.operands, Call.operands]; exact .inr (by simpa using hx))
    unfold ccC at h
    dsimp only at h ⊢
    split at h
    · rename_i x hc
      have hx : VR ρ (α x) (β x) := hab x (by simp [Op.operands, Call.operands, hc])
      rw [hc]
      split at h
      · rename_i f
        obtain ⟨sh, h1, h2, h3⟩ := clC_ok hcb h hl hr hargs hK
        dsimp only
        rw [h1]
        dsimp only
        rw [h2, cond_true]
        exact h3
      · rename_i y hn
        obtain ⟨sh, h1, h3⟩ := cvC_ok hcb h hl hr hx hargs hK
        cases x with
        | func f => exact absurd rfl (hn f)
        | _ =>
          dsimp only
          rw [h1]
          exact h3
    · rename_i b hc
      rw [hc]
      exact biC_ok h hr hargs hK
    · cases h
  | _ => cases h
end
end Gp.Rn
