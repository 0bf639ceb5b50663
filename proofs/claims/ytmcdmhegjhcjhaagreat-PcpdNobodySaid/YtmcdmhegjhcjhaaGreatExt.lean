import Derived.Test.YtmcdmhegjhcjhaaGreatBuf
/- Worlds that only grew; a range over a function whose values are known. -/
namespace Gp
open Go

/-- Nothing that lay there has changed. -/
abbrev Ext (w w' : World) : Prop := ∀ S : Nat → Prop, Fr8 w w' S

theorem Ext.refl (w : World) : Ext w w := fun S => Fr8.refl w S
theorem Ext.trans {w w1 w2 : World} (h : Ext w w1) (h' : Ext w1 w2) : Ext w w2 := fun S => (h S).trans (h' S) fun _ _ e => e
theorem Ext.drew (w : World) : Ext w w.drew := fun S => Fr8.drew w S
theorem Ext.fr {w w1 w2 : World} {S : Nat → Prop} (h : Ext w w1) (h' : Fr8 w1 w2 S) : Fr8 w w2 S := (h S).trans h' fun _ _ e => e
theorem Fr8.ext {w w1 w2 : World} {S : Nat → Prop} (h : Fr8 w w1 S) (h' : Ext w1 w2) : Fr8 w w2 S := h.trans (h' S) fun _ _ e => e
/-- What changed is new. -/
theorem Fr8.new {w w' : World} {S : Nat → Prop} (h : Fr8 w w' S) (hs : ∀ b, b < w.heap.size → ¬ S b) : Ext w w' := fun _ => ⟨h.size, fun b hb _ => h.same b hb (hs b hb), h.io⟩
theorem Ext.new {w w1 w2 : World} {S : Nat → Prop} (h : Ext w w1) (h' : Fr8 w1 w2 S) (hs : ∀ b, b < w.heap.size → ¬ S b) : Ext w w2 := (h.fr h').new hs
theorem Ext.size {w w' : World} (h : Ext w w') : w.heap.size ≤ w'.heap.size := (h fun _ => False).size
theorem Row.ext {w w' : World} {b : Nat} {l : List Value} (h : Row w b l) (hf : Ext w w') : Row w' b l := h.fr (hf fun _ => False) (by simp)
theorem Buf.ext {w w' : World} {s : SliceV} {vs : List Value} (h : Buf w s vs) (hf : Ext w w') : Buf w' s vs := h.fr (hf fun _ => False) (fun _ _ => by simp)
theorem Fr8.putDef (w : World) (b : Nat) (o : Obj) : Fr8 w (w.putObj b o) (· = b) :=
  ⟨by simp [World.putObj], fun c _ hn => by simp [World.putObj, Array.getElem?_setIfInBounds]; intro e; exact absurd e.symm hn, rfl, rfl, rfl⟩

/-- A new place. -/
theorem Al_e {w : World} {T : TypeId} {l : List Value} {K : Addr → World → Prop} (h : ∀ b w1, Row w1 b l → b = w.heap.size → w1.heap.size = b + 1 → Ext w w1 → K ⟨b, 0, none⟩ w1) : Al w (.cells ⟨l⟩ T) K := Al_row h

/-- A row is written anew, whole. -/
theorem StN_full {w : World} {b : Nat} {l : List Value} {vs : List Value} {K : World → Prop} (hr : Row w b l) (hv : vs.all isOne = true) (hl : vs.length = l.length)
    (h : ∀ w1, Row w1 b vs → (∀ S : Nat → Prop, S b → Fr8 w w1 S) → w1.heap.size = w.heap.size → K w1) : StN vs w ⟨b, 0, none⟩ 0 K := by
  refine StN_row vs w l 0 0 hr (fun v h => List.all_eq_true.1 hv v h) (by omega) fun w1 r1 f1 z1 => h w1 ?_ f1 z1
  have : List.drop vs.length l = [] := by rw [hl]; simp
  simpa [this] using r1

theorem StN_nil (w : World) (a : Addr) (i : Nat) (K : World → Prop) : StN [] w a i K = K w := rfl

/-- A new place, filled at once. -/
theorem Al_f {w : World} {T : TypeId} {z vs : List Value} {K : Addr → World → Prop} (hv : vs.all isOne = true) (hl : vs.length = z.length)
    (h : ∀ b w1, Row w1 b vs → b = w.heap.size → w1.heap.size = b + 1 → Ext w w1 → K ⟨b, 0, none⟩ w1) : Al w (.cells ⟨z⟩ T) fun a w1 => StN vs w1 a 0 fun w2 => K a w2 := by
  refine Al_e fun b w1 r1 e1 z1 f1 => StN_full r1 hv hl fun w2 r2 f2 z2 => h b w2 r2 e1 (by omega) (f1.new (f2 (· = b) rfl) fun x hx e => by omega)

theorem block_add (a : Addr) (j : Nat) : (a.add j).block = a.block := by unfold Addr.add; split <;> rfl

theorem cell_lt {w : World} {a : Addr} {v : Value} (h : w.cell? a = some v) : a.block < w.heap.size := by
  unfold World.cell? at h
  cases hh : w.heap[a.block]? with
  | none => simp [hh] at h
  | some o => exact (Array.getElem?_eq_some_iff.1 hh).1

theorem cell_fr {w w' : World} {a : Addr} {v : Value} {S : Nat → Prop} (h : w.cell? a = some v) (hf : Fr8 w w' S) (hs : ¬ S a.block) : w'.cell? a = some v := by
  have := hf.same a.block (cell_lt h) hs
  rw [← h]
  simp only [World.cell?, this]

theorem cell_ext {w w' : World} {a : Addr} {v : Value} (h : w.cell? a = some v) (hf : Ext w w') : w'.cell? a = some v := cell_fr h (hf fun _ => False) (by simp)

theorem Fr8.setLoop (W : World) (l : Nat) (st : LoopState) (p : Option Code) : Fr8 W (Gp.setLoop W l st p) (· = l) :=
  ⟨by simp [Gp.setLoop], fun b _ hn => by simp [Gp.setLoop, Array.getElem?_modify]; omega, rfl, rfl, rfl⟩
theorem Fr8.busyW (W : World) (l : Nat) : Fr8 W (Gp.busyW W l) (· = l) :=
  ⟨by simp [Gp.busyW], fun b _ hn => by simp [Gp.busyW, Array.getElem?_modify]; omega, rfl, rfl, rfl⟩

/-! ### Functions that yield known values -/
/-- The function v yields xs, one after the other, while C holds. -/
def IterFn (P : Program) (ks : List Shape) (v : Value) (C : World → Prop) (xs : List (DenR ks)) : Prop :=
  match v with
  | .func (.func f) first cap => hasBody P f = true ∧ ∀ (l : Nat) (Q : Nat → World → Prop) (D : World → Prop),
      (∀ i W, Q i W → C W) → (∀ i W W', Q i W → Ext W W' → Q i W') → (∀ W W', D W → Ext W W' → D W') →
      (∀ i x W (K : Bool → World → Prop), xs[i]? = some x → Q i W → (∀ W', Q (i + 1) W' → K true W') → (∀ W', D W' → K false W') → YieldP P l (encR ks x) W K) →
      ∀ w, Q 0 w → CallP P [] f (first.toList ++ (Value.func (.yield l) #[] #[] :: cap.toList)) w fun _ w' => Q xs.length w' ∨ D w'
  | _ => False

theorem callV_yield {P : Program} {l : Nat} {sh : List Shape} {args : List Value} {w : World} {K : Value → World → Prop} (h : YieldP P l args w fun b w' => K (.bool b) w') : CallV P sh (.func (.yield l) #[] #[]) args w K := h

def lAt (r : Option Nat) (w : World) : Nat := if r.isNone then w.heap.size + 1 else w.heap.size

/-- The marker of the calls that are put off. -/
def Mark (r : Option Nat) (w W : World) : Prop := r = none → W.heap[w.heap.size]? = some (.deferred (some []))

theorem rng_iter {P : Program} {r : Option Nat} {ks : List Shape} {v : Value} {C : World → Prop} {xs : List (DenR ks)} {w : World} {body : Nat → DenR ks → World → (Exit → World → Prop) → Prop} {Kn Kr : World → Prop} {Kx : List (Nat × (World → Prop))}
    (hv : IterFn P ks v C xs) (I : Nat → World → Prop) (J : Exit → World → Prop) (hr : ∀ l₀, r = some l₀ → ∃ lp, w.heap[l₀]? = some (.loop lp))
    (h0 : ∀ w1, Ext w w1 → w1.heap.size = lAt r w + 1 → I 0 w1)
    (hC : ∀ i W, I i W → C W)
    (stI : ∀ i W W', I i W → Fr8 W W' (· = lAt r w) → I i W')
    (stJ : ∀ e W W', J e W → Fr8 W W' (· = lAt r w) → J e W')
    (jmp : ∀ e W, J e W → e = .ret ∨ ∃ id, e = .exit id)
    (step : ∀ i x W Kb, xs[i]? = some x → I i W → lAt r w < W.heap.size → (∀ W' S, Fr8 (busyW W (lAt r w)) W' S → (∀ b, w.heap.size ≤ b → b ≤ lAt r w → ¬ S b) → I (i + 1) W' → Kb .normal W') →
      (∀ e W' S, Fr8 (busyW W (lAt r w)) W' S → (∀ b, w.heap.size ≤ b → b ≤ lAt r w → ¬ S b) → J e W' → Kb e W') → body (lAt r w) x W Kb)
    (fn : ∀ W, I xs.length W → Mark r w W → Kn W) (fr : ∀ W, J .ret W → Mark r w W → Kr W) (fx : ∀ id W, J (.exit id) W → Mark r w W → findK id Kx W) :
    RngP P r ks v w body Kn Kr Kx := by
  unfold RngP
  refine ⟨hr, ?_⟩
  unfold IterFn at hv
  split at hv
  · rename_i f first cap
    obtain ⟨hb, hv⟩ := hv
    refine ⟨hb, fun l L w1 ctx => ?_⟩
    have hl : l = lAt r w := ctx.at_
    subst hl
    have hwl : w.heap.size ≤ lAt r w := by unfold lAt; split <;> omega
    have mext : ∀ W W', Mark r w W → lAt r w < W.heap.size → Ext W W' → Mark r w W' := fun W W' hm hlt he hn => by
      rw [(he fun _ => False).same _ (by omega) (by simp)]; exact hm hn
    have mset : ∀ W st p, Mark r w W → Mark r w (setLoop W (lAt r w) st p) := fun W st p hm hn => by
      have : ¬ (lAt r w = w.heap.size) := by unfold lAt; rw [hn]; simp
      rw [show (setLoop W (lAt r w) st p).heap[w.heap.size]? = W.heap[w.heap.size]? by simp [setLoop, Array.getElem?_modify, this]]
      exact hm hn
    have mbody : ∀ W W' S, Mark r w W → lAt r w < W.heap.size → Fr8 (busyW W (lAt r w)) W' S → (∀ b, w.heap.size ≤ b → b ≤ lAt r w → ¬ S b) → Mark r w W' := fun W W' S hm hlt hf hs hn => by
      have : ¬ (lAt r w = w.heap.size) := by unfold lAt; rw [hn]; simp
      rw [hf.same _ (by simp [busyW]; omega) (hs _ (Nat.le_refl _) hwl)]
      rw [show (busyW W (lAt r w)).heap[w.heap.size]? = W.heap[w.heap.size]? by simp [busyW, Array.getElem?_modify, this]]
      exact hm hn
    have llt : ∀ st p W, L st p W → lAt r w < W.heap.size := fun st p W hL => by
      obtain ⟨lp, h⟩ := ctx.isLoop st p W hL
      exact (Array.getElem?_eq_some_iff.1 h).1
    have lext : ∀ st p W W', L st p W → Ext W W' → L st p W' := fun st p W W' hL he =>
      ctx.frame st p W W' hL ((he fun _ => False).same _ (llt st p W hL) (by simp))
    refine Calls.mono (hv (lAt r w) (fun i W => I i W ∧ L .ready none W ∧ Mark r w W) (fun W => ∃ e p, J e W ∧ jumpOf e = some p ∧ p ≠ none ∧ L .done p W ∧ Mark r w W)
      (fun i W h => hC i W h.1) (fun i W W' h he => ⟨stI i W W' h.1 (he _), lext _ _ _ _ h.2.1 he, mext _ _ h.2.2 (llt _ _ _ h.2.1) he⟩)
      (fun W W' ⟨e, p, h1, h2, h3, h4, h5⟩ he => ⟨e, p, stJ e W W' h1 (he _), h2, h3, lext _ _ _ _ h4 he, mext _ _ h5 (llt _ _ _ h4) he⟩) ?_ w1 ?_) ?_
    · intro i x W K hx ⟨hI, hL, hm⟩ ht hf
      refine ctx.yield x W none K hL (step i x W _ hx hI (llt _ _ _ hL) ?_ ?_)
      · intro W' S hfr hs hI'
        have hL' : L .busy none W' := ctx.frame _ _ _ _ (ctx.busy _ _ hL) (hfr.same _ (by simpa [busyW] using llt _ _ _ hL) (hs _ hwl (Nat.le_refl _)))
        exact ⟨hL', none, rfl, ht _ ⟨stI _ _ _ hI' (Fr8.setLoop _ _ _ _), ctx.set _ _ _ _ _ hL', mset _ _ _ (mbody W W' S hm (llt _ _ _ hL) hfr hs)⟩⟩
      · intro e W' S hfr hs hJ
        have hL' : L .busy none W' := ctx.frame _ _ _ _ (ctx.busy _ _ hL) (hfr.same _ (by simpa [busyW] using llt _ _ _ hL) (hs _ hwl (Nat.le_refl _)))
        have hmk := mset W' .done
        rcases jmp _ _ hJ with rfl | ⟨id, rfl⟩
        · exact ⟨hL', some .ret, rfl, hf _ ⟨.ret, some .ret, stJ _ _ _ hJ (Fr8.setLoop _ _ _ _), rfl, by simp, ctx.set _ _ _ _ _ hL', hmk _ (mbody W W' S hm (llt _ _ _ hL) hfr hs)⟩⟩
        · exact ⟨hL', some (.exit id), rfl, hf _ ⟨.exit id, some (.exit id), stJ _ _ _ hJ (Fr8.setLoop _ _ _ _), rfl, by simp, ctx.set _ _ _ _ _ hL', hmk _ (mbody W W' S hm (llt _ _ _ hL) hfr hs)⟩⟩
    · exact ⟨h0 w1 (fun S => ⟨by have := ctx.size; omega, fun b hb _ => ctx.old b hb, ctx.io⟩) ctx.size, ctx.ready, ctx.marks⟩
    · rintro e w2 ⟨he, h⟩
      refine ⟨he, ?_⟩
      rcases h with ⟨hI, hL, hm⟩ | ⟨e', p, hJ, hj, hp, hL, hm⟩
      · exact ⟨.ready, none, hL, by simp, fn _ (stI _ _ _ hI (Fr8.setLoop _ _ _ _)) (mset _ _ _ hm)⟩
      · refine ⟨.done, p, hL, by simp, ?_⟩
        have hJ' := stJ _ _ _ hJ (Fr8.setLoop w2 (lAt r w) .exhausted p)
        have hm' := mset w2 .exhausted p hm
        rcases jmp _ _ hJ with rfl | ⟨id, rfl⟩
        · simp only [jumpOf, Option.some.injEq] at hj
          subst hj
          exact fr _ hJ' hm'
        · simp only [jumpOf, Option.some.injEq] at hj
          subst hj
          exact fx _ _ hJ' hm'
  · exact hv.elim
end Gp
