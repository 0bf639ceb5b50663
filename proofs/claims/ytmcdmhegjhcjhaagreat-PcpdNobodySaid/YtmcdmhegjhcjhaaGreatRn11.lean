import Derived.Test.YtmcdmhegjhcjhaaGreatRn10
/- A machine that runs closed code over named blocks: builtins, calls, one operation. -/
namespace Gp.Rn
open Go Gp

/-- What the machine's calls give. -/
structure CbOk (lp : Bool) (P : Program) (w0 : World) (ρ0 : Nm) (cb : Cb) : Prop where
  call : ∀ (f : FuncId) (args : List AV) (s : St) (k : List AV → St → Bool) (ρ : Nm) (w : World) (args' : List Value) (K : List Value → World → Prop), cb.call f args s k = true → Le ρ0 ρ → Rel w0 ρ s w → VsR ρ args args' →
    (∀ rs s', k rs s' = true → ∀ ρ' w' rs', Le ρ ρ' → Rel w0 ρ' s' w' → VsR ρ' rs rs' → (lp = true → Lp ρ s w s' w') → K rs' w') → Calls P f ⟨args'⟩ w fun e w' => ∃ vs, e = .returned (tup vs) ∧ K vs w'
  yld : ∀ (l : Nat) (args : List AV) (s : St) (k : Bool → St → Bool) (ρ : Nm) (w : World) (args' : List Value) (x : Loc) (K : Bool → World → Prop), cb.yld l args s k = true → Le ρ0 ρ → Rel w0 ρ s w → ρ l = some x → VsR ρ args args' →
    (∀ b s', k b s' = true → ∀ ρ' w', Le ρ ρ' → Rel w0 ρ' s' w' → (lp = true → Lp ρ s w s' w') → K b w') → YieldP P x.b args' w K

theorem cb0_ok (P : Program) (w0 : World) (ρ0 : Nm) : CbOk true P w0 ρ0 cb0 := ⟨fun f args s k ρ w args' K h => (by cases h), fun l args s k ρ w args' x K h => (by cases h)⟩

theorem exShapes_mono : ∀ {sh : List Shape} {φ ψ : List Value → Prop}, (∀ us, φ us → ψ us) → exShapes sh φ → exShapes sh ψ := by
  have hks : ∀ (ks : List Kind) (φ ψ : List Value → Prop), (∀ us, φ us → ψ us) → exKs ks φ → exKs ks ψ := by
    intro ks
    induction ks with
    | nil => exact fun φ ψ h g => h _ g
    | cons k ks ih => exact fun φ ψ h ⟨x, g⟩ => ⟨x, ih _ _ (fun us => h _) g⟩
  have hsh : ∀ (sh : Shape) (φ ψ : Value → Prop), (∀ u, φ u → ψ u) → sh.ex φ → sh.ex ψ := by
    intro sh φ ψ h g
    cases sh with
    | one k => obtain ⟨x, g⟩ := g; exact ⟨x, h _ g⟩
    | agg ks => exact hks ks _ _ (fun us => h _) g
  intro sh
  induction sh with
  | nil => exact fun h g => h _ g
  | cons s sh ih => exact fun h g => hsh s _ _ (fun u g => ih (fun us => h _) g) g

theorem leaves_one : ∀ {v : List Value} {a : List AV}, leavesA v = some a → ∀ x ∈ v, isOne x = true := by
  intro v
  induction v with
  | nil => intro a _ x hx; simp at hx
  | cons u v ih =>
    intro a h x hx
    unfold leavesA at h
    split at h
    · rename_i q1 q2 q3 q4
      rcases List.mem_cons.1 hx with rfl | hx
      · unfold leafA at q3
        split at q3 <;> first | rfl | cases q3
      · exact ih q4 x hx
    · cases h

section
variable {lp : Bool} {w0 w : World} {ρ ρ0 : Nm} {s : St} {P : Program} {k : AV → St → Bool} {K : Value → World → Prop} {cb : Cb}

theorem clC_ok {ty : TypeId} {f : FuncId} {args : List AV} {args' : List Value} (hcb : CbOk lp P w0 ρ0 cb) (h : clC P cb ty f args s k = true) (hl : Le ρ0 ρ) (hr : Rel w0 ρ s w) (ha : VsR ρ args args') (hK : KK lp w0 ρ s w k K) :
    ∃ sh, resShapes P ty = some sh ∧ hasBody P f = true ∧ CallP P sh f args' w K := by
  unfold clC at h
  split at h
  · rename_i sh hs
    obtain ⟨hb, h⟩ := cond_ok h
    refine ⟨sh, hs, hb, ?_⟩
    refine Calls.mono (hcb.call f args s _ ρ w args' (fun vs w' => exShapes sh fun us => tup vs = tup us ∧ K (tup us) w') h hl hr ha fun rs s' hk ρ' w' rs' l' r' v' p' => ?_) ?_
    · obtain ⟨g, hk⟩ := cond_ok hk
      exact shsOk_ex v' g ⟨rfl, hK _ _ hk ρ' w' _ l' r' (tupA_ok v') p'⟩
    · rintro e w' ⟨vs, rfl, hx⟩
      exact exShapes_mono (fun us ⟨a, b⟩ => ⟨by rw [a], b⟩) hx
  · cases h

theorem cvC_ok {ty : TypeId} {v : AV} {v' : Value} {args : List AV} {args' : List Value} (hcb : CbOk lp P w0 ρ0 cb) (h : cvC P cb ty v args s k = true) (hl : Le ρ0 ρ) (hr : Rel w0 ρ s w) (hv : VR ρ v v') (ha : VsR ρ args args') (hK : KK lp w0 ρ s w k K) :
    ∃ sh, resShapes P ty = some sh ∧ CallV P sh v' args' w fun r w' => exShapes sh fun vs => r = tup vs ∧ K (tup vs) w' := by
  unfold cvC at h
  split at h
  · rename_i sh f first cap hs
    cases hv with
    | fn _ h1 h2 =>
    refine ⟨sh, hs, ?_⟩
    obtain ⟨hb, h⟩ := cond_ok h
    show cond (hasBody P f) _ False
    rw [hb, cond_true]
    refine Calls.mono (hcb.call f _ s _ ρ w _ (fun vs w' => exShapes sh fun us => tup vs = tup us ∧ exShapes sh fun us' => tup us = tup us' ∧ K (tup us') w') h hl hr (h1.app (ha.app h2)) fun rs s' hk ρ' w' rs' l' r' v' p' => ?_) ?_
    · obtain ⟨g, hk⟩ := cond_ok hk
      exact shsOk_ex v' g ⟨rfl, shsOk_ex v' g ⟨rfl, hK _ _ hk ρ' w' _ l' r' (tupA_ok v') p'⟩⟩
    · rintro e w' ⟨vs, rfl, hx⟩
      exact exShapes_mono (fun us ⟨a, b⟩ => ⟨by rw [a], b⟩) hx
  · rename_i sh l hs
    cases hv with
    | @yld _ x hx =>
    refine ⟨sh, hs, ?_⟩
    show YieldP P x.b (_ ++ args') w _
    refine hcb.yld l args s _ ρ w args' x _ h hl hr hx ha fun b s' hk ρ' w' l' r' p' => ?_
    obtain ⟨g, hk⟩ := cond_ok hk
    exact shsOk_ex (ρ := ρ') (.cons (.bool b) .nil) g ⟨rfl, hK _ _ hk ρ' w' _ l' r' (.bool b) p'⟩
  · cases h

theorem foldC_ok {mx : Bool} {kd : IntKind} {k : AV → Bool} {φ : Value → Prop} (hK : KP ρ k φ) : ∀ {r : List AV} {r' : List Value} {x : Int}, VsR ρ r r' → foldC mx x r kd k = true → foldMax mx x r' kd φ
  | [], _, x, h, g => by
    cases h
    exact hK _ _ (fI_ok (k := fun x => k (.int kd x)) g) (.int _ _)
  | a :: r, _, x, h, g => by
    cases h with
    | cons h h' =>
    unfold foldC at g
    split at g
    · rename_i he
      cases he
    · rename_i kd' y r1 he
      cases he
      cases h
      unfold foldMax
      have := foldC_ok hK h' g
      have e1 : ∀ x y : Int, (if y > x then y else x) = cond (decide (y > x)) y x := fun x y => by by_cases hh : y > x <;> simp [hh]
      have e2 : ∀ x y : Int, (if y < x then y else x) = cond (decide (y < x)) y x := fun x y => by by_cases hh : y < x <;> simp [hh]
      rw [e1, e2]
      exact this
    · cases g

theorem biC_ok {b : Builtin} {ts : List TypeId} {args : List AV} {args' : List Value} (h : biC P b ts args s k = true) (hr : Rel w0 ρ s w) (ha : VsR ρ args args') (hK : KK lp w0 ρ s w k K) : builtinDen P b ts args' w K := by
  unfold biC at h
  split at h
  · -- len
    split at h
    · rename_i t x
      cases ha with
      | cons hx hn =>
      cases hn
      unfold builtinDen
      dsimp only
      split at h
      · rename_i b ht
        rw [ht]
        cases hx
        exact hK.pure hr (fN_ok (k := fun n => k (.int .i64 (.ofNat n)) s) h) (.int _ _)
      · rename_i n e ht
        rw [ht]
        have := hK.pure hr h (.int _ _)
        cases hx <;> exact this
      · rename_i e ht
        rw [ht]
        split at h
        · rename_i n hn
          obtain ⟨a, c, rfl⟩ := slLen_ok hn hx
          exact hK.pure hr h (.int _ _)
        · cases h
      · rename_i kt et ht
        rw [ht]
        cases hx
        exact hK.pure hr h (.int _ _)
      · rename_i kt et r ht
        rw [ht]
        cases hx with
        | @map _ x hx =>
        split at h
        · rename_i es c hg
          obtain ⟨es', g1, g2⟩ := hr.br r _ x hg hx
          refine ⟨⟨es'⟩, c, g1, ?_⟩
          have := hK.pure hr (fN_ok (k := fun n => k (.int .i64 (.ofNat n)) s) h) (.int _ _)
          rw [g2.len] at this
          exact this
        · cases h
      · cases h
    · cases h
  · -- cap
    split at h
    · rename_i t x
      cases ha with
      | cons hx hn =>
      cases hn
      unfold builtinDen
      split at h
      · rename_i e ht
        cases hx
        dsimp only
        rw [ht]
        exact hK.pure hr h (.int _ _)
      · rename_i e _ _ _ c ht
        cases hx
        dsimp only
        rw [ht]
        exact hK.pure hr h (.int _ _)
      · cases h
    · cases h
  · -- max
    split at h
    · cases ha with
      | cons hx hn =>
      cases hx
      exact foldC_ok (hK.kp hr) hn h
    · cases h
  · -- min
    split at h
    · cases ha with
      | cons hx hn =>
      cases hx
      exact foldC_ok (hK.kp hr) hn h
    · cases h
  · -- append
    split at h
    · rename_i t t' x y
      cases ha with
      | cons hx hn =>
      cases hn with
      | cons hy hn =>
      cases hn
      rename_i x' y'
      split at h
      · rename_i e d ht ht'
        split at h
        · rename_i size bytes z hs hb hz
          have hxs : ∀ (n : Nat) (vs : List AV), appC size bytes z.length x n vs s k = true → ∃ a l c, x' = .slice a l c := by
            intro n vs g
            unfold appC at g
            obtain ⟨_, g⟩ := cond_ok g
            cases hx <;> first | exact ⟨_, _, _, rfl⟩ | cases g
          unfold builtinDen
          split at h
          · rename_i e'
            split at h
            · rename_i n hn
              obtain ⟨a', c', rfl⟩ := slLen_ok hn hy
              split at h
              · rename_i vs hvs
                obtain ⟨a, l, c, rfl⟩ := hxs _ _ h
                obtain ⟨us, g1, g2, _⟩ := slC_ok hr hvs hy
                dsimp only
                rw [ht, ht']
                dsimp only
                rw [hs, hb, hz]
                exact ⟨us, g2, appC_ok h hr hx g1 hK⟩
              · cases h
            · cases h
          · split at h
            · rename_i b
              cases hy
              obtain ⟨a, l, c, rfl⟩ := hxs _ _ h
              dsimp only
              rw [ht, ht']
              dsimp only
              rw [hs, hb, hz]
              exact appC_ok h hr hx (byA_ok _) hK
            · cases h
          · split at h
            · rename_i kd n za hza
              cases hy
              obtain ⟨g, h⟩ := cond_ok h
              rw [Bool.and_eq_true, Bool.and_eq_true] at g
              obtain ⟨a, l, c, rfl⟩ := hxs _ _ h
              dsimp only
              rw [ht, ht']
              dsimp only
              rw [hs, hb, hz]
              dsimp only
              rw [g.1, cond_true]
              have g2 := Nat.le_of_ble_eq_true g.2.1
              have g3 := Nat.le_of_ble_eq_true g.2.2
              refine ⟨Int.natCast_nonneg _, ?_, ?_, ?_⟩
              · show (n : Int) * (bytes : Int) ≤ 2 ^ 46
                omega
              · show (n : Int) ≤ 2 ^ 62
                omega
              · exact appC_ok h hr hx ((leavesA_ok hza).rep n) hK
            · cases h
          · cases h
        · cases h
      · cases h
    · cases h
  · -- copy
    split at h
    · rename_i t t' x y
      cases ha with
      | cons hx hn =>
      cases hn with
      | cons hy hn =>
      cases hn
      rename_i x' y'
      split at h
      · rename_i e ht
        split at h
        · rename_i size n m hs hn hm
          obtain ⟨a, c, rfl⟩ := slLen_ok hn hx
          obtain ⟨b, d, rfl⟩ := slLen_ok hm hy
          unfold builtinDen
          dsimp only
          rw [ht]
          dsimp only
          rw [hs]
          dsimp only
          split at h
          · rename_i vs hvs
            obtain ⟨us, g1, g2, g3, _⟩ := slC_ok hr hvs hy
            split at h
            · cases hx with
              | @sl _ _ _ _ z hz =>
              obtain ⟨s', h, r1, l1, w1, o1, _⟩ := wrC_ok hr hz g1 h
              exact ⟨us, g2, fun a ha => (by cases ha; exact w1), o1, hK.of h (Le.refl ρ) r1 (.int _ _) l1⟩
            · cases hx with
              | @slo _ _ _ _ z hz =>
              obtain ⟨s', h, r1, l1, w1, o1, _⟩ := wrC_ok hr hz g1 h
              exact ⟨us, g2, fun a ha => (by cases ha; exact w1), o1, hK.of h (Le.refl ρ) r1 (.int _ _) l1⟩
            · cases hx
              have hu : us = [] := List.length_eq_zero_iff.1 (by rw [g3]; simp [Nat.min])
              subst hu
              refine ⟨[], g2, fun a ha => (by cases ha), by simp, ?_⟩
              have e0 : Nat.min m 0 = 0 := Nat.min_zero m
              show K (.int .i64 ((Nat.min m 0 : Nat) : Int)) w
              rw [e0]
              exact hK.pure hr h (.int _ _)
            · cases h
          · cases h
        · cases h
      · cases h
    · cases h
  · -- clear
    split at h
    · rename_i t x
      cases ha with
      | cons hx hn =>
      cases hn
      split at h
      · rename_i e ht
        split at h
        · rename_i size z i o n c hs hz
          cases hx with
          | @sl _ _ _ _ y hy =>
          obtain ⟨zs, z1, z2⟩ := zerosA_ok (ρ := ρ) hz
          obtain ⟨g, h⟩ := cond_ok h
          rw [z2.len] at g
          obtain ⟨s', h, r1, l1, w1, o1, _⟩ := wrC_ok hr hy (z2.rep n) h
          unfold builtinDen
          dsimp only
          rw [ht]
          dsimp only
          rw [hs, z1]
          dsimp only
          rw [g, cond_true]
          refine ⟨fun a ha => ?_, ?_, hK.of h (Le.refl ρ) r1 (.tup .nil) l1⟩
          · cases ha
            rw [repCells_len'] at w1
            exact w1
          · intro v hv
            unfold zerosA at hz
            rw [z1] at hz
            exact leaves_one hz v hv
        · rename_i size z i o n c hs hz
          cases hx with
          | @slo _ _ _ _ y hy =>
          obtain ⟨zs, z1, z2⟩ := zerosA_ok (ρ := ρ) hz
          obtain ⟨g, h⟩ := cond_ok h
          rw [z2.len] at g
          obtain ⟨s', h, r1, l1, w1, o1, _⟩ := wrC_ok hr hy (z2.rep n) h
          unfold builtinDen
          dsimp only
          rw [ht]
          dsimp only
          rw [hs, z1]
          dsimp only
          rw [g, cond_true]
          refine ⟨fun a ha => ?_, ?_, hK.of h (Le.refl ρ) r1 (.tup .nil) l1⟩
          · cases ha
            rw [repCells_len'] at w1
            exact w1
          · intro v hv
            unfold zerosA at hz
            rw [z1] at hz
            exact leaves_one hz v hv
        · rename_i size z hs hz
          cases hx
          obtain ⟨zs, z1, z2⟩ := zerosA_ok (ρ := ρ) hz
          obtain ⟨g, h⟩ := cond_ok h
          rw [z2.len] at g
          unfold builtinDen
          dsimp only
          rw [ht]
          dsimp only
          rw [hs, z1]
          dsimp only
          rw [g, cond_true]
          refine ⟨fun a ha => (by cases ha), ?_, hK.pure hr h (.tup .nil)⟩
          intro v hv
          unfold zerosA at hz
          rw [z1] at hz
          exact leaves_one hz v hv
        · cases h
      · cases h
    · cases h
  · -- delete
    split at h
    · rename_i t t' m key
      cases ha with
      | cons hx hn =>
      cases hn with
      | cons hy hn =>
      cases hn
      split at h
      · rename_i kt et ht
        obtain ⟨r, rfl, hd⟩ := delC_ok (φ := fun w' => K (.tuple #[]) w') h hr hx hy fun s' w' hk r1 l1 => hK.of hk (Le.refl ρ) r1 (.tup .nil) l1
        unfold builtinDen
        dsimp only
        rw [ht]
        exact hd
      · cases h
    · cases h
  · cases h
end
end Gp.Rn
