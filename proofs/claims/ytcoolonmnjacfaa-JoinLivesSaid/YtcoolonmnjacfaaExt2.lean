import Derived.Test.YtcoolonmnjacfaaExt
/- A function that yields known values, and keeps rows of its own meanwhile. -/
namespace Gp
open Go

/-- As IterFn; what whoever takes the values does leaves alone what is newer than the call. -/
def IterFn2 (P : Program) (ks : List Shape) (v : Value) (C : World → Prop) (xs : List (DenR ks)) : Prop :=
  match v with
  | .func (.func f) first cap => hasBody P f = true ∧ ∀ (l : Nat) (w : World) (Q : Nat → World → Prop) (D : World → Prop),
      (∀ i W, Q i W → C W) → (∀ i W W', Q i W → Fr8 W W' (w.heap.size ≤ ·) → Q i W') → (∀ W W', D W → Fr8 W W' (w.heap.size ≤ ·) → D W') →
      (∀ i x W (K : Bool → World → Prop), xs[i]? = some x → Q i W → (∀ W', Q (i + 1) W' → Fr8 W W' (· < w.heap.size) → K true W') → (∀ W', D W' → Fr8 W W' (· < w.heap.size) → K false W') → YieldP P l (encR ks x) W K) →
      Q 0 w → CallP P [] f (first.toList ++ (Value.func (.yield l) #[] #[] :: cap.toList)) w fun _ w' => Q xs.length w' ∨ D w'
  | _ => False

theorem rng_iter2 {P : Program} {r : Option Nat} {ks : List Shape} {v : Value} {C : World → Prop} {xs : List (DenR ks)} {w : World} {body : Nat → DenR ks → World → (Exit → World → Prop) → Prop} {Kn Kr : World → Prop} {Kx : List (Nat × (World → Prop))}
    (hv : IterFn2 P ks v C xs) (I : Nat → World → Prop) (J : Exit → World → Prop) (hr : ∀ l₀, r = some l₀ → ∃ lp, w.heap[l₀]? = some (.loop lp))
    (h0 : ∀ w1, Ext w w1 → w1.heap.size = lAt r w + 1 → I 0 w1)
    (hC : ∀ i W, I i W → C W)
    (stI : ∀ i W W', I i W → Fr8 W W' (lAt r w ≤ ·) → I i W')
    (stJ : ∀ e W W', J e W → Fr8 W W' (lAt r w ≤ ·) → J e W')
    (jmp : ∀ e W, J e W → e = .ret ∨ ∃ id, e = .exit id)
    (step : ∀ i x W Kb, xs[i]? = some x → I i W → lAt r w < W.heap.size → (∀ W' S, Fr8 (busyW W (lAt r w)) W' S → (∀ b, S b → b < w.heap.size) → I (i + 1) W' → Kb .normal W') →
      (∀ e W' S, Fr8 (busyW W (lAt r w)) W' S → (∀ b, S b → b < w.heap.size) → J e W' → Kb e W') → body (lAt r w) x W Kb)
    (fn : ∀ W, I xs.length W → Mark r w W → Kn W) (fr : ∀ W, J .ret W → Mark r w W → Kr W) (fx : ∀ id W, J (.exit id) W → Mark r w W → findK id Kx W) :
    RngP P r ks v w body Kn Kr Kx := by
  unfold RngP
  refine ⟨hr, ?_⟩
  unfold IterFn2 at hv
  split at hv
  · rename_i f first cap
    obtain ⟨hb, hv⟩ := hv
    refine ⟨hb, fun l L w1 ctx => ?_⟩
    have hl : l = lAt r w := ctx.at_
    subst hl
    have hwl : w.heap.size ≤ lAt r w := by unfold lAt; split <;> omega
    have hz0 := ctx.size
    have up : ∀ {W W'}, Fr8 W W' (w1.heap.size ≤ ·) → Fr8 W W' (lAt r w ≤ ·) := fun he => he.mono fun b h => by omega
    have ls : ∀ W st p, Fr8 W (setLoop W (lAt r w) st p) (lAt r w ≤ ·) := fun W st p => (Fr8.setLoop W _ st p).mono fun b h => by omega
    have mext : ∀ W W', Mark r w W → lAt r w < W.heap.size → Fr8 W W' (w1.heap.size ≤ ·) → Mark r w W' := fun W W' hm hlt he hn => by
      rw [he.same _ (by omega) (by omega)]; exact hm hn
    have mset : ∀ W st p, Mark r w W → Mark r w (setLoop W (lAt r w) st p) := fun W st p hm hn => by
      have : ¬ (lAt r w = w.heap.size) := by unfold lAt; rw [hn]; simp
      rw [show (setLoop W (lAt r w) st p).heap[w.heap.size]? = W.heap[w.heap.size]? by simp [setLoop, Array.getElem?_modify, this]]
      exact hm hn
    have mbody : ∀ W W' S, Mark r w W → lAt r w < W.heap.size → Fr8 (busyW W (lAt r w)) W' S → (∀ b, w.heap.size ≤ b → b ≤ lAt r w → ¬ S b) → Mark r w W' := fun W W' S hm hlt hf hs hn => by
      have : ¬ (lAt r w = w.heap.size) := by unfold lAt; rw [hn]; simp
      rw [hf.same _ (by simp [busyW]; omega) (hs _ (Nat.le_refl _) hwl)]
      rw [show (busyW W (lAt r w)).heap[w.heap.size]? = W.heap[w.heap.size]? by simp [busyW, Array.getElem?_modify, this]]
      exact hm hn
    have llt : ∀ st p W, L st p W → lAt r w < W.heap.size := fun st p W hL => by
      obtain ⟨lp, h⟩ := ctx.isLoop st p W hL
      exact (Array.getElem?_eq_some_iff.1 h).1
    have lext : ∀ st p W W', L st p W → Fr8 W W' (w1.heap.size ≤ ·) → L st p W' := fun st p W W' hL he =>
      ctx.frame st p W W' hL (he.same _ (llt st p W hL) (by omega))
    refine Calls.mono (hv (lAt r w) w1 (fun i W => I i W ∧ L .ready none W ∧ Mark r w W) (fun W => ∃ e p, J e W ∧ jumpOf e = some p ∧ p ≠ none ∧ L .done p W ∧ Mark r w W)
      (fun i W h => hC i W h.1) (fun i W W' h he => ⟨stI i W W' h.1 (up he), lext _ _ _ _ h.2.1 he, mext _ _ h.2.2 (llt _ _ _ h.2.1) he⟩)
      (fun W W' ⟨e, p, h1, h2, h3, h4, h5⟩ he => ⟨e, p, stJ e W W' h1 (up he), h2, h3, lext _ _ _ _ h4 he, mext _ _ h5 (llt _ _ _ h4) he⟩) ?_ ?_) ?_
    · intro i x W K hx ⟨hI, hL, hm⟩ ht hf
      have hz1 := ctx.size
      have frm : ∀ W' S st p, Fr8 (busyW W (lAt r w)) W' S → (∀ b, S b → b < w.heap.size) → Fr8 W (setLoop W' (lAt r w) st p) (· < w1.heap.size) := fun W' S st p hfr hS =>
        ((((Fr8.busyW W (lAt r w)).mono (S' := (· < w1.heap.size)) fun b e => by subst e; omega).trans (hfr.mono (S' := (· < w1.heap.size)) fun b e => by have := hS b e; omega) fun _ _ e => e).trans ((Fr8.setLoop W' (lAt r w) st p).mono (S' := (· < w1.heap.size)) fun b e => by subst e; omega) fun _ _ e => e)
      refine ctx.yield x W none K hL (step i x W _ hx hI (llt _ _ _ hL) ?_ ?_)
      · intro W' S hfr hS hI'
        have hs : ∀ b, w.heap.size ≤ b → b ≤ lAt r w → ¬ S b := fun b h1 _ h3 => by have := hS b h3; omega
        have hL' : L .busy none W' := ctx.frame _ _ _ _ (ctx.busy _ _ hL) (hfr.same _ (by simpa [busyW] using llt _ _ _ hL) (hs _ hwl (Nat.le_refl _)))
        exact ⟨hL', none, rfl, ht _ ⟨stI _ _ _ hI' (ls _ _ _), ctx.set _ _ _ _ _ hL', mset _ _ _ (mbody W W' S hm (llt _ _ _ hL) hfr hs)⟩ (frm W' S _ _ hfr hS)⟩
      · intro e W' S hfr hS hJ
        have hs : ∀ b, w.heap.size ≤ b → b ≤ lAt r w → ¬ S b := fun b h1 _ h3 => by have := hS b h3; omega
        have hL' : L .busy none W' := ctx.frame _ _ _ _ (ctx.busy _ _ hL) (hfr.same _ (by simpa [busyW] using llt _ _ _ hL) (hs _ hwl (Nat.le_refl _)))
        have hmk := mset W' .done
        rcases jmp _ _ hJ with rfl | ⟨id, rfl⟩
        · exact ⟨hL', some .ret, rfl, hf _ ⟨.ret, some .ret, stJ _ _ _ hJ (ls _ _ _), rfl, by simp, ctx.set _ _ _ _ _ hL', hmk _ (mbody W W' S hm (llt _ _ _ hL) hfr hs)⟩ (frm W' S _ _ hfr hS)⟩
        · exact ⟨hL', some (.exit id), rfl, hf _ ⟨.exit id, some (.exit id), stJ _ _ _ hJ (ls _ _ _), rfl, by simp, ctx.set _ _ _ _ _ hL', hmk _ (mbody W W' S hm (llt _ _ _ hL) hfr hs)⟩ (frm W' S _ _ hfr hS)⟩
    · exact ⟨h0 w1 (fun S => ⟨by have := ctx.size; omega, fun b hb _ => ctx.old b hb, ctx.io⟩) ctx.size, ctx.ready, ctx.marks⟩
    · rintro e w2 ⟨he, h⟩
      refine ⟨he, ?_⟩
      rcases h with ⟨hI, hL, hm⟩ | ⟨e', p, hJ, hj, hp, hL, hm⟩
      · exact ⟨.ready, none, hL, by simp, fn _ (stI _ _ _ hI (ls _ _ _)) (mset _ _ _ hm)⟩
      · refine ⟨.done, p, hL, by simp, ?_⟩
        have hJ' := stJ _ _ _ hJ (ls w2 .exhausted p)
        have hm' := mset w2 .exhausted p hm
        rcases jmp _ _ hJ with rfl | ⟨id, rfl⟩
        · simp only [jumpOf, Option.some.injEq] at hj
          subst hj
          exact fr _ hJ' hm'
        · simp only [jumpOf, Option.some.injEq] at hj
          subst hj
          exact fx _ _ hJ' hm'
  · exact hv.elim
end Gp
