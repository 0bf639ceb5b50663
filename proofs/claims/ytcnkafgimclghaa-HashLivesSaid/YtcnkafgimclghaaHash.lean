import Derived.Test.YtcnkafgimclghaaG18h
import Derived.Test.YtcnkafgimclghaaHashPure
import Derived.Test.YtcnkafgimclghaaBits
namespace Go.Proofs
open Gp Gp.Hash

theorem tmod_cy {m from_ i : Nat} (hm : m ≤ 2 ^ 48) (hf : from_ < m) (hi : i < m) : Int.tmod (IntKind.i64.wrap ((from_ : Int) + (i : Int))) (m : Int) = ((cy m (from_ + i) : Nat) : Int) := by
  rw [wrap_i64 (by omega) (by omega), Int.tmod_eq_emod_of_nonneg (by omega)]
  have c := cyc m (from_ + i)
  rcases c with ⟨h1, h2⟩ | ⟨h1, h2⟩
  · rw [h2, Int.emod_eq_of_lt (by omega) (by omega)]; omega
  · rw [h2]
    have : ((from_ : Int) + (i : Int)) = ((from_ + i - m : Nat) : Int) + (m : Int) := by omega
    rw [this, Int.add_emod_right, Int.emod_eq_of_lt (by omega) (by omega)]

theorem walk_rng {w : World} {f0 f1 b from_ m : Nat} {body : Nat → DenR [.one (.int .i64)] → World → (Exit → World → Prop) → Prop} {Kn Kr : World → Prop} {Kx : List (Nat × (World → Prop))}
    (I : Nat → World → Prop) (J : Exit → World → Prop) (hm : m ≤ 2 ^ 48) (hf : from_ < m)
    (h0 : ∀ w1, (∀ S, Fr8 w w1 S) → w1.heap[w.heap.size]? = some (.deferred (some [])) → w1.heap.size = w.heap.size + 2 → I 0 w1)
    (hI : ∀ i W, I i W → Row W f0 [.pointer (some ⟨b, 0, none⟩)] ∧ Row W f1 [.int .i64 from_] ∧ ∃ s, W.cell? ⟨b, 0, none⟩ = some (.slice s m m))
    (stI : ∀ i W W', I i W → Fr8 W W' (· = w.heap.size + 1) → I i W')
    (stJ : ∀ e W W', J e W → Fr8 W W' (· = w.heap.size + 1) → J e W')
    (jmp : ∀ e W, J e W → e = .ret ∨ ∃ id, e = .exit id)
    (step : ∀ i W Kb, i < m → I i W → (∀ W', W'.heap[w.heap.size + 1]? = (busyW W (w.heap.size + 1)).heap[w.heap.size + 1]? → I (i + 1) W' → Kb .normal W') →
      (∀ e W', W'.heap[w.heap.size + 1]? = (busyW W (w.heap.size + 1)).heap[w.heap.size + 1]? → J e W' → Kb e W') → body (w.heap.size + 1) (((cy m (from_ + i) : Nat) : Int), ()) W Kb)
    (fn : ∀ W, I m W → Kn W) (fr : ∀ W, J .ret W → Kr W) (fx : ∀ id W, J (.exit id) W → findK id Kx W) :
    RngP Try.prog none [.one (.int .i64)] (Value.func (.func n_hash_Table_walk_1) #[] #[(Value.pointer (some ⟨f0, 0, none⟩)), (Value.pointer (some ⟨f1, 0, none⟩))]) w body Kn Kr Kx := by
  refine ⟨fun l₀ h => (by cases h), by kernel_rfl, fun l L w1 ctx => ?_⟩
  have hl : l = w.heap.size + 1 := ctx.at_
  subst hl
  refine Calls.mono (ok_hash_Table_walk_1 (a0 := .func (.yield (w.heap.size + 1)) #[] #[]) (f0 := ⟨f0, 0, none⟩) (f1 := ⟨f1, 0, none⟩)
    (K := fun w2 => ∃ st p, L st p w2 ∧ st ≠ .busy ∧ jumpK Kn Kr Kx p (setLoop w2 (w.heap.size + 1) .exhausted p)) ?_) (fun e w' h => h)
  have i0 := h0 w1 (fun S => ⟨by have := ctx.size; omega, fun b hb _ => ctx.old b hb, ctx.io⟩) (ctx.marks rfl) ctx.size
  obtain ⟨r0, r1, s, hs⟩ := hI _ _ i0
  unfold s_hash_Table_walk_1
  simp only [ex_some, Ld_eq, List.getElem?_cons_zero, LdV_some, dec_slice, dec_ptr, r0.cell, hs]
  refine LoopP_inv (fun st W => (∃ i : Nat, i ≤ m ∧ st.1 = i ∧ I i W) ∧ L .ready none W) (fun st _ => m - st.1.toNat) ⟨⟨0, by omega, rfl, i0⟩, ctx.ready⟩ ?_
  rintro ⟨x, ⟨⟩⟩ W ⟨⟨i, hi, rfl, hIi⟩, hL⟩ next hnext
  by_cases hlt : i < m
  · have hlt' : ((i : Int) < (m : Int)) := by omega
    simp only [hlt', decide_true, cond_true]
    have hId := stI _ _ _ hIi (Fr8.drew W _)
    have hLd : L .ready none W.drew := ctx.frame _ _ _ _ hL rfl
    obtain ⟨r0, r1, s, hs⟩ := hI _ _ hId
    simp only [ex_some, List.getElem?_cons_zero, LdV_some, dec_slice, dec_int, dec_ptr, r0.cell, r1.cell, hs]
    refine ⟨by omega, ?_⟩
    rw [tmod_cy hm hf hlt]
    refine ctx.yield (((cy m (from_ + i) : Nat) : Int), ()) W.drew none _ hLd (step i W.drew _ hlt hId ?_ ?_)
    · intro W' hh hI'
      refine ⟨ctx.frame _ _ _ _ (ctx.busy _ _ hLd) hh, none, rfl, true, rfl, ?_⟩
      simp only [Bool.not_true, cond_false]
      refine hnext _ _ ⟨⟨i + 1, by omega, ?_, stI _ _ _ hI' (Fr8.setLoop _ _ _ _)⟩, ctx.set _ _ _ _ _ (ctx.frame _ _ _ _ (ctx.busy _ _ hLd) hh)⟩ ?_
      · simp only; rw [wrap_i64 (by omega) (by omega)]; omega
      · simp only; rw [wrap_i64 (by omega) (by omega)]; omega
    · intro e W' hh hJ
      have hb := ctx.frame _ _ _ _ (ctx.busy _ _ hLd) hh
      rcases jmp _ _ hJ with rfl | ⟨id, rfl⟩
      · refine ⟨hb, _, rfl, false, rfl, ?_⟩
        simp only [Bool.not_false, cond_true]
        refine ⟨.done, some .ret, ctx.set _ _ _ _ _ hb, by simp, ?_⟩
        exact fr _ (stJ _ _ _ (stJ _ _ _ hJ (Fr8.setLoop _ _ _ _)) (Fr8.setLoop _ _ _ _))
      · refine ⟨hb, _, rfl, false, rfl, ?_⟩
        simp only [Bool.not_false, cond_true]
        refine ⟨.done, some (.exit id), ctx.set _ _ _ _ _ hb, by simp, ?_⟩
        exact fx _ _ (stJ _ _ _ (stJ _ _ _ hJ (Fr8.setLoop _ _ _ _)) (Fr8.setLoop _ _ _ _))
  · have hlt' : ¬ ((i : Int) < (m : Int)) := by omega
    simp only [hlt', decide_false, cond_false]
    have : i = m := by omega
    subst this
    exact ⟨.ready, none, hL, by simp, fn _ (stI _ _ _ hIi (Fr8.setLoop _ _ _ _))⟩

/-! ### The table in memory -/
def eKey : Ent → ByteArray
  | none => bs []
  | some x => x.1
def eN : Ent → Int
  | none => 0
  | some x => x.2
def eU : Ent → Bool
  | none => false
  | some _ => true
def entV (e : Ent) : List Value := [.string (eKey e), .int .i64 (eN e), .bool (eU e)]
theorem entV_len (e : Ent) : (entV e).length = 3 := rfl
def slA (s : Nat) (L : List Ent) : Option Addr := if L = [] then none else some ⟨s, 0, none⟩

structure HT (w : World) (b s : Nat) (L : List Ent) (many most : Int) : Prop where
  hd : Row w b [.slice (slA s L) L.length L.length, .int .i64 many, .int .i64 most, .bool true]
  row : L ≠ [] → Row w s (L.flatMap entV)
  ne : L ≠ [] → b ≠ s
  sz : L.length ≤ 2 ^ 20

theorem HT.fr {w w' : World} {b s : Nat} {L : List Ent} {many most : Int} {S : Nat → Prop} (h : HT w b s L many most) (hf : Fr8 w w' S) (h1 : ¬ S b) (h2 : L ≠ [] → ¬ S s) : HT w' b s L many most :=
  ⟨h.hd.fr hf h1, fun hn => (h.row hn).fr hf (h2 hn), h.ne, h.sz⟩
theorem HT.frn {w w' : World} {b s : Nat} {L : List Ent} {many most : Int} (h : HT w b s L many most) (hf : ∀ S, Fr8 w w' S) : HT w' b s L many most :=
  h.fr (hf fun _ => False) (by simp) (by simp)

theorem HT.ent {w : World} {b s : Nat} {L : List Ent} {many most : Int} (h : HT w b s L many most) {i : Nat} {e : Ent} (hi : L[i]? = some e) (j : Nat) (hj : j < 3) : w.cell? ⟨s, i * 3 + j, none⟩ = (entV e)[j]? := by
  have hn : L ≠ [] := by rintro rfl; simp at hi
  rw [(h.row hn).cell, flat_get _ 3 entV_len _ _ j hj, hi]; rfl

/-! ### Where a key begins -/
def hTo (k : ByteArray) : Nat → Int
  | 0 => 2166136261
  | i + 1 => match k[i]? with
    | some c => IntKind.u32.wrap (xorI .u32 (hTo k i) (IntKind.u32.wrap (c.toNat : Int)) * 16777619)
    | none => 0
def homeN (k : ByteArray) (m : Nat) : Nat := (Int.tmod (hTo k k.size) (m : Int)).toNat

theorem wrap_u32_lt (n : Int) : 0 ≤ IntKind.u32.wrap n ∧ IntKind.u32.wrap n < 4294967296 := by
  rw [IntKind.wrap_u32]; omega

theorem hTo_lt (k : ByteArray) (i : Nat) : 0 ≤ hTo k i ∧ hTo k i < 4294967296 := by
  cases i with
  | zero => simp [hTo]
  | succ i =>
    simp only [hTo]
    split
    · exact wrap_u32_lt _
    · omega

theorem homeN_lt (k : ByteArray) {m : Nat} (hm : 0 < m) : homeN k m < m := by
  unfold homeN
  have h := (hTo_lt k k.size).1
  rw [Int.tmod_eq_emod_of_nonneg h]
  have := Int.emod_lt_of_pos (hTo k k.size) (b := (m : Int)) (by omega)
  have := Int.emod_nonneg (hTo k k.size) (b := (m : Int)) (by omega)
  omega

theorem home_ok (k : ByteArray) (m : Nat) (hm : 0 < m) (hm2 : m ≤ 2 ^ 20) (w : World) (hk : k.size ≤ 2 ^ 63 - 1) : c_hash_home k (m : Int) w fun r w' => r = (homeN k m : Int) ∧ w' = w := by
  apply ok_hash_home
  unfold s_hash_home
  refine LoopP_inv (fun st W => (∃ i : Nat, i ≤ k.size ∧ st.2.1 = i ∧ st.1 = hTo k i) ∧ W = w) (fun st _ => k.size - st.2.1.toNat) ⟨⟨0, by omega, rfl, rfl⟩, rfl⟩ ?_
  rintro ⟨x, y, ⟨⟩⟩ W ⟨⟨i, hi, rfl, rfl⟩, rfl⟩ next hnext
  by_cases hlt : i < k.size
  · have hlt' : ((i : Int) < (k.size : Int)) := by omega
    simp only [hlt', decide_true, cond_true]
    have hg : k[i]? = some k[i] := by simp [hlt]
    refine ⟨k[i], by omega, by simp, ?_⟩
    have e : IntKind.i64.wrap ((i : Int) + 1) = ((i + 1 : Nat) : Int) := by rw [wrap_i64 (by omega) (by omega)]; omega
    rw [e]
    refine hnext _ _ ⟨⟨i + 1, by omega, rfl, ?_⟩, rfl⟩ (by simp only; omega)
    simp only [hTo, hg]
  · have hlt' : ¬ ((i : Int) < (k.size : Int)) := by omega
    simp only [hlt', decide_false, cond_false]
    have e1 : IntKind.u32.wrap (m : Int) = m := by rw [IntKind.wrap_u32]; omega
    have : i = k.size := by omega
    subst this
    rw [e1]
    refine ⟨by omega, ?_, by trivial⟩
    have h1 := homeN_lt k hm
    have h2 : Int.tmod (hTo k k.size) (m : Int) = (homeN k m : Int) := by
      unfold homeN
      have := Int.tmod_nonneg (m : Int) (hTo_lt k k.size).1
      omega
    rw [h2, wrap_i64 (by omega) (by omega)]

theorem walk_ok (tb : Nat) (x : Int) (w : World) : c_hash_Table_walk (some ⟨tb, 0, none⟩) x w fun r w' => ∃ f0 f1, r = .func (.func n_hash_Table_walk_1) #[] #[(Value.pointer (some ⟨f0, 0, none⟩)), (Value.pointer (some ⟨f1, 0, none⟩))] ∧
    Row w' f0 [.pointer (some ⟨tb, 0, none⟩)] ∧ Row w' f1 [.int .i64 x] ∧ w.heap.size ≤ f0 ∧ w.heap.size ≤ f1 ∧ ∀ S, Fr8 w w' S := by
  apply ok_hash_Table_walk
  unfold s_hash_Table_walk
  refine ⟨rfl, Al_row fun a2 w1 r1 e1 _ f1 => ⟨rfl, Al_row fun a4 w3 r3 e3 _ f3 => ⟨a2, a4, rfl, r1.fr (f3 fun _ => False) (by simp), r3, by omega, by have := (f1 fun _ => False).size; omega, fun S => (f1 S).trans (f3 S) fun _ _ e => e⟩⟩⟩

theorem hready_ok {w : World} {b s : Nat} {L : List Ent} {many most : Int} (h : HT w b s L many most) : c_hash_Table_ready (some ⟨b, 0, none⟩) w fun r w' => r = true ∧ w' = w := by
  apply ok_hash_Table_ready
  simp only [s_hash_Table_ready, Option.isNone_some, cond_true, ex_some, Ld_eq, List.getElem?_cons_zero, List.getElem?_cons_succ, LdV_some, dec_bool, add_mk, Nat.zero_add, h.hd.cell, Bool.not_false]
  exact ⟨trivial, trivial⟩

theorem Fr8.putObj (w : World) (b : Nat) (o : Obj) : Fr8 w (w.putObj b o) (· = b) :=
  ⟨by simp [World.putObj], fun c _ hn => by simp [World.putObj, Array.getElem?_setIfInBounds]; omega, rfl, rfl, rfl⟩

theorem toList_inj {a b : ByteArray} (h : a.toList = b.toList) : a = b := by
  rw [ByteArray.toList_eq, ByteArray.toList_eq] at h
  cases a; cases b
  simp at h
  rw [h]

theorem strEq_iff {a b : ByteArray} : strEq a b = true ↔ a = b := by
  unfold strEq
  constructor
  · intro h; exact toList_inj (by simpa using h)
  · rintro rfl; simp

/-- A new place that is filled at once. -/
theorem Al_fill3 {w : World} {T : TypeId} {x y z x' y' z' : Value} {K : Addr → World → Prop} (h1 : isOne x' = true) (h2 : isOne y' = true) (h3 : isOne z' = true)
    (h : ∀ a w', Row w' a [x', y', z'] → w.heap.size ≤ a → (∀ S, Fr8 w w' S) → K ⟨a, 0, none⟩ w') :
    Al w (.cells ⟨[x, y, z]⟩ T) fun a w1 => St w1 (a.add 0) x' fun w2 => St w2 (a.add 1) y' fun w3 => St w3 (a.add 2) z' fun w4 => K a w4 := by
  refine Al_row fun a w1 r1 e1 _ f1 => ?_
  simp only [add_mk, Nat.zero_add, Nat.add_zero]
  refine St_row r1 h1 (by simp) fun w2 r2 f2 _ => ?_
  refine St_row r2 h2 (by simp) fun w3 r3 f3 _ => ?_
  refine St_row r3 h3 (by simp) fun w4 r4 f4 _ => ?_
  refine h a w4 r4 (by omega) fun S => ?_
  exact (((f1 S).trans (f2 (· = a) rfl) fun x hx e => by omega).trans (f3 (· = a) rfl) fun x hx e => by omega).trans (f4 (· = a) rfl) fun x hx e => by omega

/-- What find answers. -/
def FindR (L : List Ent) (k : ByteArray) (at_ : Int) (t : Bool) : Prop :=
  ∃ d, First L (homeN k L.length) k d ∧ at_ = ((cy L.length (homeN k L.length + d) : Nat) : Int) ∧
    ((t = true ∧ ∃ n, L[cy L.length (homeN k L.length + d)]? = some (some (k, n))) ∨ (t = false ∧ L[cy L.length (homeN k L.length + d)]? = some none))

structure FI (w W : World) (S : Nat → Prop) : Prop where
  fr : Fr8 w W S
  mark : W.heap[w.heap.size]? = some (.deferred (some []))
  size : w.heap.size + 2 ≤ W.heap.size

theorem FI.st {w W W' : World} {S : Nat → Prop} (h : FI w W S) (hf : Fr8 W W' (· = w.heap.size + 1)) : FI w W' S :=
  ⟨h.fr.trans hf fun b hb e => by omega, by rw [hf.same _ (by have := h.size; omega) (by omega)]; exact h.mark, by have := h.size; have := hf.size; omega⟩

theorem hfind_ok {w : World} {b s : Nat} {L : List Ent} {many most : Int} {k : ByteArray} (h : HT w b s L many most) (hne : L ≠ []) (hk : k.size ≤ 2 ^ 63 - 1) (hs : ∃ d, d < L.length ∧ Stop L (homeN k L.length) k d) :
    c_hash_Table_find (some ⟨b, 0, none⟩) k w fun at_ t w' => FindR L k at_ t ∧ ∀ S, Fr8 w w' S := by
  apply ok_hash_Table_find
  unfold s_hash_Table_find
  have hpos : 0 < L.length := by cases L with
    | nil => exact absurd rfl hne
    | cons _ _ => simp
  have hsz := h.sz
  have hh := homeN_lt k hpos
  refine ⟨rfl, Al_row fun a2 w1 r2 e2 _ f1 => ⟨rfl, Al_row fun a4 w3 r4 e4 _ f3 => Al_row fun a6 w5 r6 e6 _ f5 => Al_row fun a8 w7 r8 e8 _ f7 => ?_⟩⟩
  have s1 := (f1 fun _ => False).size
  have s3 := (f3 fun _ => False).size
  have s5 := (f5 fun _ => False).size
  have s7 := (f7 fun _ => False).size
  have l2 := r2.lt
  have l4 := r4.lt
  have l6 := r6.lt
  have f07 : ∀ S, Fr8 w w7 S := fun S => (((f1 S).trans (f3 S) fun _ _ e => e).trans (f5 S) fun _ _ e => e).trans (f7 S) fun _ _ e => e
  have h7 := h.frn f07
  have r2 : Row w7 a2 _ := ((r2.fr (f3 fun _ => False) (by simp)).fr (f5 fun _ => False) (by simp)).fr (f7 fun _ => False) (by simp)
  have r4 : Row w7 a4 _ := (r4.fr (f5 fun _ => False) (by simp)).fr (f7 fun _ => False) (by simp)
  have r6 : Row w7 a6 _ := r6.fr (f7 fun _ => False) (by simp)
  have hl0 : ((L.length : Int) == 0) = false := by simp; omega
  have h7d : HT w7.drew b s L many most := h7.frn fun S => Fr8.drew _ S
  have r2d := r2.drew
  have r4d := r4.drew
  simp only [cond_false, ex_some, Ld_eq, List.getElem?_cons_zero, LdV_some, dec_slice, dec_ptr, dec_str, r2.cell, r2d.cell, r4d.cell, h7.hd.cell, h7d.hd.cell, hl0]
  refine cm_hash_home (home_ok k L.length hpos hsz w7.drew hk) ?_
  rintro r w22 ⟨rfl, rfl⟩
  refine ⟨by simp [r2d.cell], ?_⟩
  refine cm_hash_Table_walk (walk_ok b _ _) ?_
  rintro r w24 ⟨g0, g1, rfl, q0, q1, lg0, lg1, f24⟩
  have r2 : Row w24 a2 _ := r2d.fr (f24 fun _ => False) (by simp)
  have r4 : Row w24 a4 _ := r4d.fr (f24 fun _ => False) (by simp)
  have r6 : Row w24 a6 _ := r6.drew.fr (f24 fun _ => False) (by simp)
  have r8 : Row w24 a8 _ := r8.drew.fr (f24 fun _ => False) (by simp)
  have h24 := h7d.frn f24
  have f024 : ∀ S, Fr8 w w24 S := fun S => ((f07 S).trans (Fr8.drew _ S) fun _ _ e => e).trans (f24 S) fun _ _ e => e
  have l8 := r8.lt
  have hb := h.hd.lt
  have hs7 : w7.heap.size ≤ w24.heap.size := by have := (f24 fun _ => False).size; exact this
  have hsl : s < w.heap.size := (h.row hne).lt
  have lg0' := q0.lt
  have lg1' := q1.lt
  have hg0 : w7.heap.size ≤ g0 := lg0
  have hg1 : w7.heap.size ≤ g1 := lg1
  refine walk_rng (b := b) (m := L.length) (from_ := homeN k L.length)
    (fun i W => (∀ d, d < i → ¬ Stop L (homeN k L.length) k d) ∧ FI w24 W fun _ => False)
    (fun e W => e = .ret ∧ (FI w24 W fun x => x = a6 ∨ x = a8) ∧ ∃ at_ t, Row W a6 [.int .i64 at_] ∧ Row W a8 [.bool t] ∧ FindR L k at_ t)
    (by omega) hh ?_ ?_ ?_ ?_ ?_ ?_ ?_ ?_ ?_
  · exact fun w1 hf hm hz => ⟨fun d hd => by omega, hf _, hm, by omega⟩
  · exact fun i W hI => ⟨q0.fr hI.2.fr (by simp), q1.fr hI.2.fr (by simp), _, by rw [(h24.hd.fr hI.2.fr (by simp)).cell]; rfl⟩
  · exact fun i W W' hI hf => ⟨hI.1, hI.2.st hf⟩
  · rintro e W W' ⟨rfl, hF, at_, t, ra, rt, hr⟩ hf
    exact ⟨by trivial, hF.st hf, at_, t, ra.fr hf (by omega), rt.fr hf (by omega), hr⟩
  · exact fun e W hJ => .inl hJ.1
  · rintro i W Kb hi ⟨hno, hF⟩ hn hj
    have hFz := hF.size
    have zb := (Fr8.busyW W (w24.heap.size + 1)).size
    have fb : Fr8 w24 (busyW W (w24.heap.size + 1)) fun _ => False := hF.fr.trans (Fr8.busyW W _) fun x hx e => by omega
    have hW : HT (busyW W (w24.heap.size + 1)) b s L many most := h24.fr fb (by simp) (by simp)
    have q2 := r2.fr fb (by simp)
    have q4 := r4.fr fb (by simp)
    have q6 := r6.fr fb (by simp)
    have q8 := r8.fr fb (by simp)
    refine ⟨by trivial, ?_⟩
    simp only [ex_some, List.getElem?_cons_zero, LdV_some, dec_slice, dec_ptr, q2.cell, hW.hd.cell]
    have hx : cy L.length (homeN k L.length + i) < L.length := cy_lt (by omega)
    have he : ∃ e, L[cy L.length (homeN k L.length + i)]? = some e := ⟨_, List.getElem?_eq_getElem hx⟩
    obtain ⟨e, he⟩ := he
    have c0 := hW.ent he 0 (by omega)
    have c1 := hW.ent he 1 (by omega)
    have c2 := hW.ent he 2 (by omega)
    refine AtIx_row (b := s) (o := 0) (by simp [slA, hne]) (by omega) (by simp only; omega) ?_
    simp only [Int.toNat_natCast, Nat.zero_add]
    simp only [Nat.add_zero] at c0
    simp only [List.getElem?_cons_zero, List.getElem?_cons_succ, LdV_some, dec_int, dec_bool, dec_str, add_mk, Nat.add_zero, c0, c1, c2, entV]
    refine Al_fill3 rfl rfl rfl fun a37 w40 q40 e37 f40 => ?_
    have fb40 : Fr8 w24 w40 fun _ => False := fb.trans (f40 _) fun _ _ e => e
    have l40 := (f40 fun _ => False).size
    have q6 := q6.fr (f40 fun _ => False) (by simp)
    have q8 := q8.fr (f40 fun _ => False) (by simp)
    have q4 := q4.fr (f40 fun _ => False) (by simp)
    have hm40 : w40.heap[w24.heap.size]? = some (.deferred (some [])) := by rw [(f40 fun _ => False).same _ (by omega) (by simp), (Fr8.busyW W _).same _ (by omega) (by omega)]; exact hF.mark
    have hk40 : w40.heap[w24.heap.size + 1]? = (busyW W (w24.heap.size + 1)).heap[w24.heap.size + 1]? := (f40 fun _ => False).same _ (by omega) (by simp)
    -- the two results
    have out : ∀ (v : Int) (t : Bool), FindR L k v t → St w40 ⟨a6, 0, none⟩ (Value.int .i64 v) fun w42 => St w42 ⟨a8, 0, none⟩ (Value.bool t) fun w43 => Kb .ret w43 := by
      intro v t hr
      refine St_row q6 rfl (by simp) fun w42 q42 f42 z42 => ?_
      refine St_row (q8.fr (f42 (· = a6) rfl) (by omega)) rfl (by simp) fun w43 q43 f43 z43 => ?_
      have f0 : Fr8 w40 w43 fun x => x = a6 ∨ x = a8 := (f42 _ (.inl rfl)).trans (f43 _ (.inr rfl)) fun _ _ e => e
      refine hj _ _ ?_ ⟨rfl, ⟨(fb40.mono fun _ e => e.elim).trans f0 fun _ _ e => e, ?_, by have := f0.size; omega⟩, v, t, (q42.fr (f43 (· = a8) rfl) (by omega)), q43, hr⟩
      · rw [f0.same _ (by omega) (by omega)]; exact hk40
      · rw [f0.same _ (by omega) (by omega)]; exact hm40
    simp only [StN_nil, List.getElem?_cons_zero, List.getElem?_cons_succ, LdV_some, dec_bool, dec_str, add_mk, Nat.zero_add, q40.cell, q4.cell]
    cases e with
    | none =>
      simp only [eU, Bool.not_false, cond_true]
      exact out _ _ ⟨i, ⟨hi, .inl he, hno⟩, rfl, .inr ⟨rfl, he⟩⟩
    | some x =>
      obtain ⟨k', n'⟩ := x
      simp only [eU, Bool.not_true, cond_false, cond_false, eKey]
      cases hse : strEq k' k with
      | true =>
        have := strEq_iff.1 hse
        subst this
        simp only [cond_true]
        exact out _ _ ⟨i, ⟨hi, .inr ⟨_, he⟩, hno⟩, rfl, .inl ⟨rfl, _, he⟩⟩
      | false =>
        simp only [cond_false]
        refine hn _ hk40 ⟨fun d hd => ?_, fb40, hm40, by omega⟩
        by_cases hdi : d = i
        · subst hdi
          rintro (h1 | ⟨n, h1⟩)
          · rw [he] at h1; cases h1
          · rw [he] at h1; cases h1; rw [strEq_iff.2 rfl] at hse; cases hse
        · exact hno d (by omega)
  · rintro W ⟨hno, _⟩
    obtain ⟨d, hd, hst⟩ := hs
    exact absurd hst (hno d hd)
  · rintro W ⟨_, hF, at_, t, ra, rt, hr⟩
    refine ⟨hF.mark, ?_⟩
    have pf := Fr8.putObj W w24.heap.size (.deferred none)
    simp only [List.getElem?_cons_zero, LdV_some, dec_int, dec_bool, (ra.fr pf (by omega)).cell, (rt.fr pf (by omega)).cell]
    refine ⟨hr, fun S => ?_⟩
    exact ((f024 S).trans hF.fr fun x hx e => by omega).trans pf fun x hx e => by omega
  · rintro id W ⟨h, _⟩
    cases h

theorem hfind_nil {w : World} {b s : Nat} {many most : Int} {k : ByteArray} (h : HT w b s [] many most) :
    c_hash_Table_find (some ⟨b, 0, none⟩) k w fun at_ t w' => t = false ∧ ∀ S, Fr8 w w' S := by
  apply ok_hash_Table_find
  unfold s_hash_Table_find
  refine ⟨rfl, Al_row fun a2 w1 r2 e2 _ f1 => ⟨rfl, Al_row fun a4 w3 r4 e4 _ f3 => Al_row fun a6 w5 r6 e6 _ f5 => Al_row fun a8 w7 r8 e8 _ f7 => ?_⟩⟩
  have s1 := (f1 fun _ => False).size
  have s3 := (f3 fun _ => False).size
  have s5 := (f5 fun _ => False).size
  have s7 := (f7 fun _ => False).size
  have l6 := r6.lt
  have f07 : ∀ S, Fr8 w w7 S := fun S => (((f1 S).trans (f3 S) fun _ _ e => e).trans (f5 S) fun _ _ e => e).trans (f7 S) fun _ _ e => e
  have h7 := h.frn f07
  have r2 : Row w7 a2 _ := ((r2.fr (f3 fun _ => False) (by simp)).fr (f5 fun _ => False) (by simp)).fr (f7 fun _ => False) (by simp)
  have r6 : Row w7 a6 _ := r6.fr (f7 fun _ => False) (by simp)
  simp only [cond_true, ex_some, Ld_eq, List.getElem?_cons_zero, LdV_some, dec_slice, dec_ptr, r2.cell, h7.hd.cell, List.length_nil, Int.natCast_zero, beq_self_eq_true]
  refine St_row r6 rfl (by simp) fun w12 r12 f12 _ => ?_
  refine St_row (r8.fr (f12 (· = a6) rfl) (by omega)) rfl (by simp) fun w13 r13 f13 _ => ?_
  simp only [(r12.fr (f13 (· = a8) rfl) (by omega)).cell, r13.cell]
  exact ⟨by trivial, fun S => ((f07 S).trans (f12 (· = a6) rfl) fun x hx e => by omega).trans (f13 (· = a8) rfl) fun x hx e => by omega⟩

/-! ### A whole table -/
structure TB (w : World) (b s : Nat) (L : List Ent) (most : Int) (M : ByteArray → Option Int) : Prop where
  ht : HT w b s L (cnt L : Int) most
  t : T (fun k => homeN k L.length) L fun _ _ => False
  free : 2 * cnt L ≤ L.length
  m : ∀ k n, M k = some n ↔ Has L k n
  most0 : 0 ≤ most
  most1 : most ≤ 65536
  sz : L.length ≤ 262144
  nils : L = [] → s = b
  keys : ∀ k n, Has L k n → k.size ≤ 2 ^ 63 - 1

theorem TB.fr {w w' : World} {b s : Nat} {L : List Ent} {most : Int} {M : ByteArray → Option Int} {S : Nat → Prop} (h : TB w b s L most M) (hf : Fr8 w w' S) (h1 : ¬ S b) (h2 : ¬ S s) : TB w' b s L most M :=
  ⟨h.ht.fr hf h1 fun _ => h2, h.t, h.free, h.m, h.most0, h.most1, h.sz, h.nils, h.keys⟩
theorem TB.frn {w w' : World} {b s : Nat} {L : List Ent} {most : Int} {M : ByteArray → Option Int} (h : TB w b s L most M) (hf : ∀ S, Fr8 w w' S) : TB w' b s L most M :=
  h.fr (hf fun _ => False) (by simp) (by simp)

theorem TB.none_iff {w : World} {b s : Nat} {L : List Ent} {most : Int} {M : ByteArray → Option Int} (h : TB w b s L most M) (k : ByteArray) : M k = none ↔ ∀ n, ¬ Has L k n := by
  constructor
  · intro hn n hx
    rw [(h.m k n).2 hx] at hn; cases hn
  · intro hn
    cases hx : M k with
    | none => rfl
    | some n => exact absurd ((h.m k n).1 hx) (hn n)

theorem TB.pos {w : World} {b s : Nat} {L : List Ent} {most : Int} {M : ByteArray → Option Int} (_ : TB w b s L most M) (hne : L ≠ []) : 0 < L.length := by
  cases L with
  | nil => exact absurd rfl hne
  | cons _ _ => simp

theorem hfind_tb {w : World} {b s : Nat} {L : List Ent} {most : Int} {M : ByteArray → Option Int} (h : TB w b s L most M) (k : ByteArray) (hk : k.size ≤ 2 ^ 63 - 1) :
    c_hash_Table_find (some ⟨b, 0, none⟩) k w fun at_ t w' => (∀ S, Fr8 w w' S) ∧
      ((t = true ∧ ∃ (i : Nat) (n : Int), at_ = (i : Int) ∧ L[i]? = some (some (k, n)) ∧ M k = some n) ∨
       (t = false ∧ M k = none ∧ (L ≠ [] → ∃ d, First L (homeN k L.length) k d ∧ at_ = ((cy L.length (homeN k L.length + d) : Nat) : Int)))) := by
  by_cases hne : L = []
  · subst hne
    refine cm_hash_Table_find (hfind_nil h.ht) ?_
    rintro at_ t w' ⟨rfl, hf⟩
    refine ⟨hf, .inr ⟨rfl, (h.none_iff k).2 ?_, fun hx => absurd rfl hx⟩⟩
    rintro n ⟨i, hi⟩
    simp at hi
  · have hpos := h.pos hne
    have hh := homeN_lt k hpos
    have hfr := h.free
    obtain ⟨i, hi⟩ := free_of (L := L) (by omega)
    refine cm_hash_Table_find (hfind_ok h.ht hne hk (stop_of_free hh hi)) ?_
    rintro at_ t w' ⟨⟨d, hd, rfl, ⟨rfl, n, hn⟩ | ⟨rfl, hn⟩⟩, hf⟩
    · exact ⟨hf, .inl ⟨rfl, _, n, rfl, hn, (h.m k n).2 ⟨_, hn⟩⟩⟩
    · refine ⟨hf, .inr ⟨rfl, (h.none_iff k).2 ?_, fun _ => ⟨d, hd, rfl⟩⟩⟩
      rintro n ⟨i, hi⟩
      have := first_there h.t (fun _ _ x => x) hh hi hd
      rw [this, hi] at hn; cases hn

theorem hget_ok {w : World} {b s : Nat} {L : List Ent} {most : Int} {M : ByteArray → Option Int} (h : TB w b s L most M) (k : ByteArray) (hk : k.size ≤ 2 ^ 63 - 1) :
    c_hash_Table_Get (some ⟨b, 0, none⟩) k w fun n t w' => (∀ S, Fr8 w w' S) ∧ t = (M k).isSome ∧ n = (M k).getD 0 := by
  apply ok_hash_Table_Get
  unfold s_hash_Table_Get
  refine cm_hash_Table_ready (hready_ok h.ht) ?_
  rintro r w2 ⟨rfl, rfl⟩
  simp only [Bool.not_true, cond_false]
  refine cm_hash_Table_find (hfind_tb h k hk) ?_
  rintro at_ t w' ⟨hf, ⟨rfl, i, n, rfl, hi, hM⟩ | ⟨rfl, hM, _⟩⟩
  · have h' := h.frn hf
    have hne : L ≠ [] := by rintro rfl; simp at hi
    have hlt : i < L.length := (List.getElem?_eq_some_iff.1 hi).1
    simp only [Bool.not_true, cond_false, ex_some, Ld_eq, List.getElem?_cons_zero, LdV_some, dec_slice, h'.ht.hd.cell]
    refine AtIx_row (b := s) (o := 0) (by simp [slA, hne]) (by omega) (by simp only; omega) ?_
    simp only [Int.toNat_natCast, List.getElem?_cons_zero, List.getElem?_cons_succ, LdV_some, dec_int, add_mk, Nat.zero_add, h'.ht.ent hi 1 (by omega), entV, eN]
    exact ⟨hf, by simp [hM], by simp [hM]⟩
  · simp only [Bool.not_false, cond_true]
    exact ⟨hf, by simp [hM], by simp [hM]⟩

theorem hnew_ok (n : Int) (w : World) : c_hash_New n w fun p e w' =>
    (∀ S, Fr8 w w' S) ∧ ((0 ≤ n ∧ n ≤ 65536 ∧ e = 0 ∧ ∃ b, p = some ⟨b, 0, none⟩ ∧ w.heap.size ≤ b ∧ TB w' b b [] n fun _ => none) ∨ ((n < 0 ∨ 65536 < n) ∧ e = 1 ∧ p = none)) := by
  apply ok_hash_New
  unfold s_hash_New
  by_cases c1 : n < 0
  · simp only [c1, decide_true, cond_true]; exact ⟨fun S => Fr8.refl _ _, .inr ⟨.inl (by first | trivial | omega), by trivial, by trivial⟩⟩
  · by_cases c2 : n > 65536
    · simp only [c1, c2, decide_true, decide_false, cond_true, cond_false]; exact ⟨fun S => Fr8.refl _ _, .inr ⟨.inr (by first | trivial | omega), by trivial, by trivial⟩⟩
    · simp only [c1, c2, decide_false, cond_false]
      refine Al_row fun a w3 r3 e3 _ f3 => ⟨f3, .inl ⟨by omega, by omega, by trivial, a, rfl, by omega, ?_⟩⟩
      exact ⟨⟨r3, fun h => absurd rfl h, fun h => absurd rfl h, by simp⟩, ⟨fun i j k n n' h => by simp at h, fun i k n h => by simp at h⟩, by simp [cnt], fun k n => ⟨fun h => by simp at h, fun ⟨i, hi⟩ => by simp at hi⟩, by omega, by omega, by simp, fun _ => rfl, fun k n ⟨i, hi⟩ => by simp at hi⟩

/-! ### Writing -/
def tr (e : Ent) : ByteArray × Int × Bool := (eKey e, eN e, eU e)
def f3 (x : ByteArray × Int × Bool) : List Value := [.string x.1, .int .i64 x.2.1, .bool x.2.2]
theorem flat_tr (L : List Ent) : L.flatMap entV = (L.map tr).flatMap f3 := by rw [List.flatMap_map]; rfl
theorem map_set_tr (L : List Ent) (i : Nat) (e : Ent) : (L.map tr).set i (tr e) = (L.set i e).map tr := by rw [List.map_set]

theorem HT.of_row {w w' : World} {b s : Nat} {L L' : List Ent} {many most : Int} (h : HT w b s L many most) (hn : L ≠ []) (hl : L'.length = L.length) (hf : Fr8 w w' (· = s)) (hr : Row w' s (L'.flatMap entV)) : HT w' b s L' many most := by
  have hn' : L' ≠ [] := by rintro rfl; simp at hl; exact hn (List.length_eq_zero_iff.1 hl.symm)
  refine ⟨?_, fun _ => hr, fun _ => h.ne hn, by rw [hl]; exact h.sz⟩
  have := h.hd.fr hf (h.ne hn)
  rw [show slA s L = slA s L' by simp [slA, hn, hn'], ← hl] at this
  exact this

theorem St_ent {w : World} {b s i : Nat} {L : List Ent} {many most : Int} (h : HT w b s L many most) (hi : i < L.length) (e : Ent) {K : World → Prop} (hK : ∀ w', HT w' b s (L.set i e) many most → Fr8 w w' (· = s) → K w') :
    St w ⟨s, i * 3, none⟩ (.string (eKey e)) fun w1 => St w1 ⟨s, i * 3 + 1, none⟩ (.int .i64 (eN e)) fun w2 => St w2 ⟨s, i * 3 + 2, none⟩ (.bool (eU e)) K := by
  have hn : L ≠ [] := by rintro rfl; simp at hi
  have hr := h.row hn
  have hlen : (L.flatMap entV).length = L.length * 3 := flat_len _ 3 entV_len L
  refine St_row hr rfl (by omega) fun w1 r1 f1 _ => ?_
  refine St_row r1 rfl (by simp only [List.length_set]; omega) fun w2 r2 f2 _ => ?_
  refine St_row r2 rfl (by simp only [List.length_set]; omega) fun w3 r3 f3' _ => ?_
  have hf : Fr8 w w3 (· = s) := ((f1 (· = s) rfl).trans (f2 (· = s) rfl) fun _ _ e => e).trans (f3' (· = s) rfl) fun _ _ e => e
  refine hK w3 (h.of_row hn (by simp) hf ?_) hf
  rw [flat_tr] at r3
  have g0 : (L.map tr)[i]? = some (tr L[i]) := by simp [hi]
  have hl : i < (L.map tr).length := by simpa using hi
  have e0 := flat_set f3 3 (fun _ => rfl) (L.map tr) i 0 (tr L[i]) (eKey e, (tr L[i]).2) (.string (eKey e)) (by omega) g0 rfl
  have e1 := flat_set f3 3 (fun _ => rfl) ((L.map tr).set i (eKey e, (tr L[i]).2)) i 1 (eKey e, (tr L[i]).2) (eKey e, eN e, (tr L[i]).2.2) (.int .i64 (eN e)) (by omega) (by simp [hi]) rfl
  have e2 := flat_set f3 3 (fun _ => rfl) (((L.map tr).set i (eKey e, (tr L[i]).2)).set i (eKey e, eN e, (tr L[i]).2.2)) i 2 (eKey e, eN e, (tr L[i]).2.2) (tr e) (.bool (eU e)) (by omega) (by simp [hi]) rfl
  rw [Nat.add_zero] at e0
  rw [e0, e1, e2] at r3
  rw [List.set_set, List.set_set, map_set_tr, ← flat_tr] at r3
  exact r3

theorem St_num {w : World} {b s i : Nat} {L : List Ent} {many most n n' : Int} {k : ByteArray} (h : HT w b s L many most) (hi : L[i]? = some (some (k, n))) {K : World → Prop} (hK : ∀ w', HT w' b s (L.set i (some (k, n'))) many most → Fr8 w w' (· = s) → K w') :
    St w ⟨s, i * 3 + 1, none⟩ (.int .i64 n') K := by
  have hn : L ≠ [] := by rintro rfl; simp at hi
  have hlt : i < L.length := (List.getElem?_eq_some_iff.1 hi).1
  have hlen : (L.flatMap entV).length = L.length * 3 := flat_len _ 3 entV_len L
  refine St_row (h.row hn) rfl (by omega) fun w1 r1 f1 _ => hK w1 (h.of_row hn (by simp) (f1 (· = s) rfl) ?_) (f1 (· = s) rfl)
  rw [flat_set entV 3 entV_len L i 1 (some (k, n)) (some (k, n')) (.int .i64 n') (by omega) hi rfl] at r1
  exact r1

theorem St_many {w : World} {b s : Nat} {L : List Ent} {many many' most : Int} (h : HT w b s L many most) {K : World → Prop} (hK : ∀ w', HT w' b s L many' most → Fr8 w w' (· = b) → K w') : St w ⟨b, 1, none⟩ (.int .i64 many') K := by
  refine St_row h.hd rfl (by simp) fun w1 r1 f1 _ => hK w1 ⟨r1, fun hn => (h.row hn).fr (f1 (· = b) rfl) (fun e => h.ne hn e.symm), h.ne, h.sz⟩ (f1 (· = b) rfl)

theorem cnt_append (a b : List Ent) : cnt (a ++ b) = cnt a + cnt b := by
  induction a with
  | nil => simp [cnt]
  | cons x a ih => cases x <;> simp only [List.cons_append, cnt, ih] <;> omega

theorem has_append (a : List Ent) (e : Ent) (k : ByteArray) (n : Int) : Has (a ++ [e]) k n ↔ Has a k n ∨ e = some (k, n) := by
  constructor
  · rintro ⟨i, hi⟩
    by_cases h : i < a.length
    · rw [List.getElem?_append_left h] at hi; exact .inl ⟨i, hi⟩
    · rw [List.getElem?_append_right (by omega)] at hi
      have := (List.getElem?_eq_some_iff.1 hi).1
      simp at this
      simp [show i - a.length = 0 by omega] at hi
      exact .inr hi
  · rintro (⟨i, hi⟩ | h)
    · exact ⟨i, by rw [List.getElem?_append_left (List.getElem?_eq_some_iff.1 hi).1]; exact hi⟩
    · exact ⟨a.length, by simp [h]⟩

theorem rep_flat (n : Nat) : repCells [Value.string (bs []), Value.int .i64 0, Value.bool false] n = (List.replicate n (none : Ent)).flatMap entV := by
  induction n with
  | zero => rfl
  | succ n ih => rw [List.replicate_succ, List.flatMap_cons, ← ih]; rfl

theorem has_take {L : List Ent} {i : Nat} {k : ByteArray} {n : Int} (h : Has (L.take i) k n) : ∃ j : Nat, j < i ∧ L[j]? = some (some (k, n)) := by
  obtain ⟨j, hj⟩ := h
  have hlt := (List.getElem?_eq_some_iff.1 hj).1
  simp only [List.length_take] at hlt
  refine ⟨j, by omega, ?_⟩
  rw [List.getElem?_take] at hj
  split at hj
  · exact hj
  · cases hj

theorem hgrow_ok {w : World} {b s : Nat} {L : List Ent} {most : Int} {M : ByteArray → Option Int} (h : TB w b s L most M) (hc : (cnt L : Int) < most) :
    c_hash_Table_grow (some ⟨b, 0, none⟩) w fun w' => ∃ s' L', TB w' b s' L' most M ∧ cnt L' = cnt L ∧ 2 * (cnt L + 1) ≤ L'.length ∧ Fr8 w w' (· = b) ∧ (s' = s ∨ w.heap.size ≤ s') := by
  apply ok_hash_Table_grow
  have hd : TB w.drew b s L most M := h.frn fun S => Fr8.drew _ S
  have hm1 := h.most1
  have e1 : IntKind.i64.wrap ((cnt L : Int) + 1) = ((cnt L + 1 : Nat) : Int) := by rw [wrap_i64 (by omega) (by omega)]; omega
  have e2 : IntKind.i64.wrap (2 * ((cnt L + 1 : Nat) : Int)) = ((2 * (cnt L + 1) : Nat) : Int) := by rw [wrap_i64 (by omega) (by omega)]; omega
  simp only [s_hash_Table_grow, ex_some, Ld_eq, List.getElem?_cons_zero, List.getElem?_cons_succ, LdV_some, dec_slice, dec_int, add_mk, Nat.zero_add, hd.ht.hd.cell]
  rw [e1, e2]
  by_cases hle : 2 * (cnt L + 1) ≤ L.length
  · have hle' : (((2 * (cnt L + 1) : Nat) : Int) ≤ (L.length : Int)) := by omega
    simp only [hle', decide_true, cond_true]
    exact ⟨s, L, hd, rfl, hle, Fr8.drew _ _, .inl rfl⟩
  · have hle' : ¬ (((2 * (cnt L + 1) : Nat) : Int) ≤ (L.length : Int)) := by omega
    simp only [hle', decide_false, cond_false]
    have hlen : L.length < 131072 := by omega
    have e3 : IntKind.i64.wrap (2 * (L.length : Int)) = ((2 * L.length : Nat) : Int) := by rw [wrap_i64 (by omega) (by omega)]; omega
    rw [e3]
    obtain ⟨m, hm, hmv⟩ : ∃ m : Nat, (if ((2 * L.length : Nat) : Int) > 8 then ((2 * L.length : Nat) : Int) else 8) = (m : Int) ∧ (8 ≤ m ∧ 2 * L.length ≤ m ∧ m ≤ 262144) := by
      split
      · exact ⟨2 * L.length, rfl, by omega, by omega, by omega⟩
      · exact ⟨8, rfl, by omega, by omega, by omega⟩
    obtain ⟨m8, m2, mm⟩ := hmv
    rw [hm]
    refine MkSl_row (by omega) (by omega) (by omega) (by omega) fun s' w8 r8 hs' z8 f8 => ?_
    rw [Int.toNat_natCast, rep_flat] at r8
    simp only [Int.toNat_natCast]
    have h8 := hd.frn f8
    have l8 := r8.lt
    have hbl := h.ht.hd.lt
    have hdw : w.drew.heap.size = w.heap.size := rfl
    refine St_row h8.ht.hd rfl (by simp) fun w10 r10 f10 z10 => ?_
    simp only [List.set_cons_zero] at r10
    have hb10 : Fr8 w w10 (· = b) := ((Fr8.drew w _).trans (f8 (· = b)) fun _ _ e => e).trans (f10 (· = b) rfl) fun _ _ e => e
    have nl : ∀ A : List Ent, A.length = m → slA s' A = some ⟨s', 0, none⟩ := fun A hA => by
      have : A ≠ [] := by rintro rfl; simp at hA; omega
      simp [slA, this]
    have old : L ≠ [] → s ≠ b ∧ s < w.heap.size := fun hn => ⟨fun e => h.ht.ne hn e.symm, (h.ht.row hn).lt⟩
    refine LoopP_inv (fun st W => (∃ i : Nat, i ≤ L.length ∧ st.1 = i ∧ ∃ L2 : List Ent, L2.length = m ∧ HT W b s' L2 (cnt L : Int) most ∧ T (fun k => homeN k m) L2 (fun _ _ => False) ∧ cnt L2 = cnt (L.take i) ∧ ∀ k n, Has L2 k n ↔ Has (L.take i) k n) ∧ Fr8 w W (· = b)) (fun st _ => L.length - st.1.toNat)
      ⟨⟨0, by omega, rfl, List.replicate m none, by simp, ⟨?_, fun _ => r8.fr (f10 (· = b) rfl) (by omega), fun _ => by omega, by simp; omega⟩, ⟨fun i j k n n' hi => ?_, fun i k n hi => ?_⟩, by simp [cnt_rep, cnt], fun k n => ⟨fun ⟨i, hi⟩ => ?_, fun ⟨i, hi⟩ => by simp at hi⟩⟩, hb10⟩ ?_
    · rw [nl _ (by simp)]; simpa using r10
    · rw [List.getElem?_replicate] at hi; split at hi <;> cases hi
    · rw [List.getElem?_replicate] at hi; split at hi <;> cases hi
    · rw [List.getElem?_replicate] at hi; split at hi <;> cases hi
    rintro ⟨x, ⟨⟩⟩ W ⟨⟨i, hi, rfl, L2, hl2, hT, tt, hcnt, hhas⟩, hF⟩ next hnext
    have hFz := hF.size
    by_cases hlt : i < L.length
    · have hlt' : ((i : Int) < (L.length : Int)) := by omega
      simp only [hlt', decide_true, cond_true]
      have hn : L ≠ [] := by rintro rfl; simp at hlt
      obtain ⟨hsb, hsl⟩ := old hn
      have hLi : L[i]? = some L[i] := List.getElem?_eq_getElem hlt
      generalize hE : L[i] = e at hLi
      have hOld := (h.ht.row hn).fr hF hsb
      have cell : ∀ j, j < 3 → W.cell? ⟨s, i * 3 + j, none⟩ = (entV e)[j]? := fun j hj => by rw [hOld.cell, flat_get _ 3 entV_len _ _ j hj, hLi]; rfl
      refine AtIx_row (b := s) (o := 0) (by simp [slA, hn]) (by omega) (by simp only; omega) ?_
      have c0 := cell 0 (by omega)
      rw [Nat.add_zero] at c0
      simp only [Int.toNat_natCast, List.getElem?_cons_zero, List.getElem?_cons_succ, LdV_some, dec_int, dec_bool, dec_str, add_mk, Nat.zero_add, Nat.add_zero, c0, cell 1 (by omega), cell 2 (by omega), entV]
      refine Al_fill3 rfl rfl rfl fun a21 w24 q24 l24 f24 => ?_
      have e4 : IntKind.i64.wrap ((i : Int) + 1) = ((i + 1 : Nat) : Int) := by rw [wrap_i64 (by omega) (by omega)]; omega
      have htk : L.take (i + 1) = L.take i ++ [e] := by rw [List.take_succ_eq_append_getElem hlt, hE]
      have hF24 : Fr8 w w24 (· = b) := hF.trans (f24 _) fun _ _ e => e
      have hT24 := hT.frn f24
      simp only [StN_nil, List.getElem?_cons_zero, List.getElem?_cons_succ, LdV_some, dec_bool, dec_str, add_mk, Nat.zero_add, Nat.add_zero, q24.cell, e4]
      cases e with
      | none =>
        simp only [eU, cond_false]
        refine hnext _ _ ⟨⟨i + 1, by omega, rfl, L2, hl2, hT24, tt, ?_, fun k n => ?_⟩, hF24⟩ (by simp only; omega)
        · rw [htk, cnt_append, hcnt]; simp [cnt]
        · rw [hhas, htk, has_append]; simp
      | some x =>
        obtain ⟨k, n⟩ := x
        simp only [eU, eKey, cond_true, cond_true]
        have hHas : Has L k n := ⟨i, hLi⟩
        have hno : ∀ n, ¬ Has L2 k n := fun n' hx => by
          obtain ⟨j, hj, hjj⟩ := has_take ((hhas k n').1 hx)
          have := h.t.dist _ _ _ _ _ hjj hLi
          omega
        have hpos : 0 < L2.length := by omega
        have hh := homeN_lt k hpos
        have hcle : cnt L2 < L2.length := by
          have h1 := cnt_le (L.take i)
          have h2 : (L.take i).length ≤ L.length := by simp; omega
          omega
        obtain ⟨j0, hj0⟩ := free_of hcle
        have hne2 : L2 ≠ [] := by rintro rfl; simp at hpos
        refine cm_hash_Table_find (hfind_ok hT24 hne2 (h.keys k n hHas) (stop_of_free hh hj0)) ?_
        rintro at_ t w29 ⟨⟨d, hd, rfl, ⟨rfl, n', hn'⟩ | ⟨rfl, hn'⟩⟩, f29⟩
        · exact absurd ⟨_, hn'⟩ (hno n')
        · have hT29 : HT w29.drew b s' L2 (cnt L : Int) most := (hT24.frn f29).frn fun S => Fr8.drew _ S
          have q29 : Row w29.drew a21 _ := (q24.fr (f29 fun _ => False) (by simp)).drew
          simp only [List.getElem?_cons_zero, List.getElem?_cons_succ, LdV_some, dec_slice, dec_int, dec_bool, dec_str, hT29.hd.cell, q29.cell]
          have hq : cy L2.length (homeN k L2.length + d) < L2.length := (List.getElem?_eq_some_iff.1 hn').1
          refine AtIx_row (b := s') (o := 0) (nl L2 hl2) (by omega) (by simp only; omega) ?_
          simp only [Int.toNat_natCast, Nat.zero_add]
          refine St_ent hT29 hq (some (k, n)) fun w38 h38 f38 => ?_
          have hins := insert (n := n) (H := fun k => homeN k m) tt hno (by rw [← hl2]; exact hh) (by rw [← hl2]; exact hd)
          rw [hl2] at hins
          refine hnext _ _ ⟨⟨i + 1, by omega, rfl, _, by simp [hl2], h38, by rw [hl2]; exact hins, ?_, fun k' n'' => ?_⟩, ?_⟩ (by simp only; omega)
          · rw [cnt_put hn', htk, cnt_append, hcnt]; simp [cnt]
          · rw [has_insert hn' hno, htk, has_append, hhas]
            constructor
            · rintro (⟨rfl, rfl⟩ | ⟨_, hx⟩)
              · exact .inr rfl
              · exact .inl hx
            · rintro (hx | hx)
              · refine .inr ⟨?_, hx⟩
                rintro rfl
                exact hno _ ((hhas _ _).2 hx)
              · cases hx; exact .inl ⟨rfl, rfl⟩
          · exact ((hF24.trans (f29 _) fun _ _ e => e).trans (Fr8.drew _ _) fun _ _ e => e).trans f38 fun x hx e => by
              have e' : x = s' := e
              omega
    · have hlt' : ¬ ((i : Int) < (L.length : Int)) := by omega
      simp only [hlt', decide_false, cond_false]
      have : i = L.length := by omega
      subst this
      rw [List.take_length] at hcnt hhas
      refine ⟨s', L2, ⟨by rw [hcnt]; exact hT, by rw [hl2]; exact tt, by have := h.free; omega, fun k n => by rw [hhas]; exact h.m k n, h.most0, h.most1, by omega, fun hx => ?_, fun k n hx => h.keys k n ((hhas k n).1 hx)⟩, hcnt, by have := h.free; omega, hF, .inr (by omega)⟩
      rw [hx] at hl2; simp at hl2; omega

def upd (M : ByteArray → Option Int) (k : ByteArray) (v : Option Int) : ByteArray → Option Int := fun x => if x = k then v else M x

theorem hput_ok {w : World} {b s : Nat} {L : List Ent} {most : Int} {M : ByteArray → Option Int} (h : TB w b s L most M) (k : ByteArray) (n : Int) (hk : k.size ≤ 2 ^ 63 - 1) :
    c_hash_Table_Put (some ⟨b, 0, none⟩) k n w fun e w' =>
      (e = 0 ∧ (M k = none → (cnt L : Int) < most) ∧ ∃ s' L', TB w' b s' L' most (upd M k (some n)) ∧ cnt L' = (if (M k).isSome then cnt L else cnt L + 1) ∧ Fr8 w w' (fun x => x = b ∨ x = s) ∧ (s' = s ∨ w.heap.size ≤ s')) ∨
      (e = 7 ∧ M k = none ∧ most ≤ (cnt L : Int) ∧ ∀ S, Fr8 w w' S) := by
  apply ok_hash_Table_Put
  unfold s_hash_Table_Put
  refine cm_hash_Table_ready (hready_ok h.ht) ?_
  rintro r w2 ⟨rfl, rfl⟩
  simp only [Bool.not_true, cond_false]
  refine cm_hash_Table_find (hfind_tb h k hk) ?_
  have hsz := h.ht.sz
  rintro at_ t w5 ⟨hf, ⟨rfl, i, n0, rfl, hi, hM⟩ | ⟨rfl, hM, _⟩⟩
  · have h' := h.frn hf
    have hne : L ≠ [] := by rintro rfl; simp at hi
    have hlt : i < L.length := (List.getElem?_eq_some_iff.1 hi).1
    simp only [cond_true, ex_some, Ld_eq, List.getElem?_cons_zero, LdV_some, dec_slice, add_mk, Nat.zero_add, h'.ht.hd.cell]
    refine AtIx_row (b := s) (o := 0) (by simp [slA, hne]) (by omega) (by simp only; omega) ?_
    simp only [Int.toNat_natCast, add_mk, Nat.zero_add]
    refine St_num h'.ht hi fun w9 h9 f9 => .inl ⟨by trivial, fun hx => (by rw [hM] at hx; cases hx), s, _, ⟨by rw [cnt_same hi]; exact h9, by simp only [List.length_set]; exact update h.t hi, by rw [cnt_same hi, List.length_set]; exact h.free, fun k' n' => ?_, h.most0, h.most1, by simpa using h.sz, fun hx => ?_, fun k' n' hx => by
      rcases (has_update h.t hi k' n').1 hx with ⟨rfl, _⟩ | ⟨_, hx⟩
      · exact hk
      · exact h.keys _ _ hx⟩, by rw [cnt_same hi, hM]; rfl, ?_, .inl rfl⟩
    · rw [has_update h.t hi, upd]
      by_cases hkk : k' = k
      · subst hkk; simp [eq_comm]
      · simp [hkk, h.m]
    · have : (L.set i (some (k, n))).length = 0 := by rw [hx]; rfl
      simp at this; exact absurd this hne
    · exact (hf _).trans f9 fun x hx e => .inr e
  · have h' := h.frn hf
    have hd : TB w5.drew b s L most M := h'.frn fun S => Fr8.drew _ S
    simp only [cond_false, ex_some, Ld_eq, List.getElem?_cons_zero, List.getElem?_cons_succ, LdV_some, dec_int, add_mk, Nat.zero_add, hd.ht.hd.cell]
    by_cases hfull : (cnt L : Int) ≥ most
    · simp only [hfull, decide_true, cond_true]
      exact .inr ⟨by trivial, hM, by first | trivial | omega, fun S => (hf S).trans (Fr8.drew _ S) fun _ _ e => e⟩
    · simp only [hfull, decide_false, cond_false]
      refine cm_hash_Table_grow (hgrow_ok hd (by omega)) ?_
      rintro w14 ⟨s', L', h14, hc14, hroom, f14, hs'⟩
      refine cm_hash_Table_find (hfind_tb h14 k hk) ?_
      have hne : L' ≠ [] := by rintro rfl; simp at hroom
      have hpos := h14.pos hne
      rintro at_ t w17 ⟨f17, ⟨_, i, n0, _, _, hM'⟩ | ⟨_, _, hfst⟩⟩
      · rw [hM] at hM'; cases hM'
      · obtain ⟨d, hfd, rfl⟩ := hfst hne
        have h17 := h14.frn f17
        have hno := (h14.none_iff k).1 hM
        have hh := homeN_lt k hpos
        obtain ⟨hfree, _⟩ := first_free hno hh hfd
        have hq : cy L'.length (homeN k L'.length + d) < L'.length := (List.getElem?_eq_some_iff.1 hfree).1
        simp only [List.getElem?_cons_zero, LdV_some, dec_slice, h17.ht.hd.cell]
        refine AtIx_row (b := s') (o := 0) (by simp [slA, hne]) (by omega) (by simp only; omega) ?_
        simp only [Int.toNat_natCast, Nat.zero_add]
        refine St_ent h17.ht hq (some (k, n)) fun w23 h23 f23 => ?_
        simp only [h23.hd.cell, StN_nil, List.getElem?_cons_zero, List.getElem?_cons_succ, LdV_some, dec_int, Nat.zero_add]
        have hm1 := h.most1
        have e1 : IntKind.i64.wrap ((cnt L' : Int) + 1) = ((cnt L' + 1 : Nat) : Int) := by rw [wrap_i64 (by omega) (by omega)]; omega
        rw [e1]
        refine St_many h23 fun w27 h27 f27 => ?_
        refine .inl ⟨by trivial, fun _ => by omega, s', _, ⟨by rw [cnt_put hfree]; exact h27, by simp only [List.length_set]; exact insert h14.t hno hh hfd, by rw [cnt_put hfree, List.length_set]; omega, fun k' n' => ?_, h.most0, h.most1, by simpa using h14.sz, fun hx => ?_, fun k' n' hx => by
          rcases (has_insert hfree hno k' n').1 hx with ⟨rfl, _⟩ | ⟨_, hx⟩
          · exact hk
          · exact h14.keys _ _ hx⟩, by rw [cnt_put hfree, hM, hc14]; rfl, ?_, ?_⟩
        · rw [has_insert hfree hno, upd]
          by_cases hkk : k' = k
          · subst hkk; simp [eq_comm]
          · simp [hkk, h14.m]
        · have : (L'.set (cy L'.length (homeN k L'.length + d)) (some (k, n))).length = 0 := by rw [hx]; rfl
          simp at this; exact absurd this hne
        · have hz := (hf fun _ => False).size
          have hdz : w5.drew.heap.size = w5.heap.size := rfl
          refine (((((hf _).trans (Fr8.drew _ _) fun _ _ e => e).trans f14 fun x hx e => .inl e).trans (f17 _) fun _ _ e => e).trans f23 fun x hx e => ?_).trans f27 fun x hx e => .inl e
          have e' : x = s' := e
          rcases hs' with hs' | hs'
          · exact .inr (by omega)
          · omega
        · have hz := (hf fun _ => False).size
          have hdz : w5.drew.heap.size = w5.heap.size := rfl
          rcases hs' with hs' | hs'
          · exact .inl hs'
          · exact .inr (by omega)

theorem cy_cy {m a i : Nat} (ha : a < m) (hi : i < m) : cy m (cy m (a + 1) + i) = cy m (a + (i + 1)) := by
  have c1 := cyc m (a + 1)
  have c2 := cyc m (cy m (a + 1) + i)
  have c3 := cyc m (a + (i + 1))
  omega

/-- In the middle of a deletion. -/
structure Mid (w : World) (b s : Nat) (L Lc : List Ent) (k : ByteArray) (most : Int) (X : Nat → Nat → Prop) : Prop where
  ht : HT w b s Lc ((cnt L - 1 : Nat) : Int) most
  len : Lc.length = L.length
  t : T (fun k => homeN k L.length) Lc X
  has : ∀ k' n', Has Lc k' n' ↔ k' ≠ k ∧ Has L k' n'
  cnt : cnt Lc = Hash.cnt L - 1

theorem Mid.fr {w w' : World} {b s : Nat} {L Lc : List Ent} {k : ByteArray} {most : Int} {X : Nat → Nat → Prop} {S : Nat → Prop} (h : Mid w b s L Lc k most X) (hf : Fr8 w w' S) (h1 : ¬ S b) (h2 : ¬ S s) : Mid w' b s L Lc k most X :=
  ⟨h.ht.fr hf h1 fun _ => h2, h.len, h.t, h.has, h.cnt⟩

theorem T_imp {H : ByteArray → Nat} {L : List Ent} {X Y : Nat → Nat → Prop} (t : T H L X) (h : ∀ i p, X i p → Y i p) : T H L Y :=
  ⟨t.dist, fun i k n hi => by obtain ⟨D, h1, h2, h3⟩ := t.reach i k n hi; exact ⟨D, h1, h2, fun d hd => (h3 d hd).imp id (h _ _)⟩⟩

theorem hdelete_ok {w : World} {b s : Nat} {L : List Ent} {most : Int} {M : ByteArray → Option Int} (h : TB w b s L most M) (k : ByteArray) (hk : k.size ≤ 2 ^ 63 - 1) :
    c_hash_Table_Delete (some ⟨b, 0, none⟩) k w fun r w' => r = (M k).isSome ∧ (∃ L', TB w' b s L' most (upd M k none) ∧ cnt L' + (if (M k).isSome then 1 else 0) = cnt L) ∧ Fr8 w w' (fun x => x = b ∨ x = s) := by
  apply ok_hash_Table_Delete
  unfold s_hash_Table_Delete
  have hsz := h.ht.sz
  refine ⟨rfl, Al_row fun a2 w1 q2 e2 z2 f1 => ?_⟩
  have h1 := h.frn f1
  simp only [Ld_eq, List.getElem?_cons_zero, LdV_some, dec_ptr, q2.cell]
  refine cm_hash_Table_ready (hready_ok h1.ht) ?_
  rintro r w5 ⟨rfl, rfl⟩
  simp only [Bool.not_true, cond_false, List.getElem?_cons_zero, LdV_some, dec_ptr, q2.cell]
  refine cm_hash_Table_find (hfind_tb h1 k hk) ?_
  rintro at_ t w9 ⟨f9, ⟨rfl, i0, n0, rfl, hi0, hM⟩ | ⟨rfl, hM, _⟩⟩
  case inr =>
    simp only [Bool.not_false, cond_true]
    refine ⟨by simp [hM], ⟨L, ?_, by simp [hM]⟩, (f1 _).trans (f9 _) fun _ _ e => e⟩
    have h9 := h1.frn f9
    have : upd M k none = M := by
      funext x
      unfold upd
      split
      · rename_i hx; rw [hx, hM]
      · rfl
    rw [this]; exact h9
  have h9 := h1.frn f9
  have hne : L ≠ [] := by rintro rfl; simp at hi0
  have hlt : i0 < L.length := (List.getElem?_eq_some_iff.1 hi0).1
  have q2 : Row w9 a2 _ := q2.fr (f9 fun _ => False) (by simp)
  simp only [Bool.not_true, cond_false, ex_some, List.getElem?_cons_zero, LdV_some, dec_slice, dec_ptr, q2.cell, h9.ht.hd.cell]
  refine AtIx_row (b := s) (o := 0) (by simp [slA, hne]) (by omega) (by simp only; omega) ?_
  simp only [Int.toNat_natCast, Nat.zero_add]
  have hbl := h.ht.hd.lt
  have hsl := (h.ht.row hne).lt
  refine St_ent h9.ht hlt none fun w16 h16 f16 => ?_
  have q2 : Row w16 a2 _ := q2.fr f16 (by omega)
  have hcp : 0 < cnt L := by have := cnt_take hi0; omega
  have hfree := h.free
  have e1 : IntKind.i64.wrap ((cnt L : Int) - 1) = ((cnt L - 1 : Nat) : Int) := by rw [wrap_i64 (by omega) (by omega)]; omega
  simp only [StN_nil, ex_some, List.getElem?_cons_zero, List.getElem?_cons_succ, LdV_some, dec_int, dec_ptr, add_mk, Nat.zero_add, q2.cell, h16.hd.cell, e1]
  refine St_many h16 fun w21 h21 f21 => ?_
  have q2 : Row w21 a2 _ := q2.fr f21 (by omega)
  have h21 : HT w21.drew b s (L.set i0 none) ((cnt L - 1 : Nat) : Int) most := h21.frn fun S => Fr8.drew _ S
  have q2 : Row w21.drew a2 _ := q2.drew
  have hb21 : Fr8 w w21.drew fun x => x = b ∨ x = s := ((((f1 _).trans (f9 _) fun _ _ e => e).trans f16 fun x hx e => .inr e).trans f21 fun x hx e => .inl e).trans (Fr8.drew _ _) fun _ _ e => e
  have hpos : 0 < L.length := by omega
  have hln : (L.set i0 none).length = L.length := List.length_set
  have e3 : Int.tmod (IntKind.i64.wrap ((i0 : Int) + 1)) ((L.set i0 none).length : Int) = ((cy L.length (i0 + 1) : Nat) : Int) := by
    have := tmod_cy (m := L.length) (from_ := i0) (i := 1) (by omega) hlt (by omega)
    rw [hln]; exact this
  simp only [ex_some, List.getElem?_cons_zero, LdV_some, dec_slice, dec_ptr, q2.cell, h21.hd.cell]
  refine ⟨by rw [hln]; omega, ?_⟩
  rw [e3]
  refine cm_hash_Table_walk (walk_ok b _ _) ?_
  rintro r w31 ⟨g0, g1, rfl, p0, p1, lg0, lg1, f31⟩
  have h31 := h21.frn f31
  have q2 : Row w31 a2 _ := q2.fr (f31 fun _ => False) (by simp)
  have hb31 : Fr8 w w31 fun x => x = b ∨ x = s := hb21.trans (f31 _) fun _ _ e => e
  have hz31 := hb31.size
  have l2 := q2.lt
  have lp0 := p0.lt
  have lp1 := p1.lt
  have hz21 := hb21.size
  -- the zone
  obtain ⟨e, he0, z0⟩ := zone_of (L := L) (at_ := i0) ⟨_, hi0⟩ (by omega)
  have hc0 : cy L.length (i0 + 0) = i0 := by unfold cy; simp [hlt]
  have hH : ∀ k, homeN k L.length < L.length := fun k => homeN_lt k hpos
  have t0 : T (fun k => homeN k L.length) L (Xj L.length i0 e 0) := T_imp h.t fun i p hx => hx.elim
  have t1 := clear z0 he0 hH t0
  have z1 := zone_clear z0 he0
  rw [hc0] at t1 z1
  have he := z0.e1
  have mid0 : Mid w31 b s L (L.set i0 none) k most (Xj L.length i0 e (0 + 1)) := ⟨h31, hln, t1, has_clear h.t hi0, by have := cnt_take hi0; omega⟩
  refine walk_rng (b := b) (m := L.length) (from_ := cy L.length (i0 + 1))
    (fun i W => i + 1 ≤ e ∧ FI w31 W (· = s) ∧ ∃ Lc, Mid W b s L Lc k most (Xj L.length i0 e (i + 1)) ∧ Zone Lc i0 e (i + 1))
    (fun x W => x = .exit 0 ∧ FI w31 W (· = s) ∧ ∃ Lc, Mid W b s L Lc k most fun _ _ => False)
    (by omega) (cy_lt (by omega)) ?_ ?_ ?_ ?_ ?_ ?_ ?_ ?_ ?_
  · exact fun w1' hf hm hz => ⟨by omega, ⟨hf _, hm, by omega⟩, _, mid0.fr (hf fun _ => False) (by simp) (by simp), z1⟩
  · rintro i W ⟨_, hF, Lc, hm, _⟩
    refine ⟨p0.fr hF.fr (by omega), p1.fr hF.fr (by omega), slA s Lc, ?_⟩
    rw [hm.ht.hd.cell, ← hm.len]; rfl
  · rintro i W W' ⟨hi, hF, Lc, hm, hz⟩ hf
    exact ⟨hi, hF.st hf, Lc, hm.fr hf (by omega) (by omega), hz⟩
  · rintro x W W' ⟨rfl, hF, Lc, hm⟩ hf
    exact ⟨by trivial, hF.st hf, Lc, hm.fr hf (by omega) (by omega)⟩
  · exact fun x W hJ => .inr ⟨0, hJ.1⟩
  · rintro i W Kb hi ⟨hie, hF, Lc, hm, hz⟩ hn hj
    have hFz := hF.size
    have zb := (Fr8.busyW W (w31.heap.size + 1)).size
    have fb : Fr8 w31 (busyW W (w31.heap.size + 1)) (· = s) := hF.fr.trans (Fr8.busyW W _) fun x hx e => by
      have e' : x = w31.heap.size + 1 := e
      omega
    have hm : Mid (busyW W (w31.heap.size + 1)) b s L Lc k most _ := hm.fr (Fr8.busyW W _) (by omega) (by omega)
    have q2 := q2.fr fb (by omega)
    have hll := hm.len
    rw [cy_cy hlt hi]
    generalize hp : cy L.length (i0 + (i + 1)) = p
    have hpl : p < L.length := by rw [← hp]; exact cy_lt (by omega)
    have hnc : Lc ≠ [] := by rintro rfl; simp at hll; omega
    refine ⟨by trivial, ?_⟩
    simp only [ex_some, List.getElem?_cons_zero, LdV_some, dec_slice, dec_ptr, q2.cell, hm.ht.hd.cell]
    obtain ⟨x, hx⟩ : ∃ x, Lc[p]? = some x := ⟨_, List.getElem?_eq_getElem (by omega)⟩
    have c0 := hm.ht.ent hx 0 (by omega)
    simp only [Nat.add_zero] at c0
    refine AtIx_row (b := s) (o := 0) (by simp [slA, hnc]) (by omega) (by simp only; omega) ?_
    simp only [Int.toNat_natCast, List.getElem?_cons_zero, List.getElem?_cons_succ, LdV_some, dec_int, dec_bool, dec_str, add_mk, Nat.zero_add, Nat.add_zero, c0, hm.ht.ent hx 1 (by omega), hm.ht.ent hx 2 (by omega), entV]
    refine Al_fill3 rfl rfl rfl fun a44 w47 q47 l47 f47 => ?_
    have fb47 : Fr8 w31 w47 (· = s) := fb.trans (f47 _) fun _ _ e => e
    have z47 := (f47 fun _ => False).size
    have hm47 := hm.fr (f47 fun _ => False) (by simp) (by simp)
    have q2 := q2.fr (f47 fun _ => False) (by simp)
    have hk47 : w47.heap[w31.heap.size + 1]? = (busyW W (w31.heap.size + 1)).heap[w31.heap.size + 1]? := (f47 fun _ => False).same _ (by omega) (by simp)
    have hmk47 : w47.heap[w31.heap.size]? = some (.deferred (some [])) := by rw [(f47 fun _ => False).same _ (by omega) (by simp), (Fr8.busyW W _).same _ (by omega) (by omega)]; exact hF.mark
    simp only [StN_nil, List.getElem?_cons_zero, List.getElem?_cons_succ, LdV_some, dec_bool, add_mk, Nat.zero_add, Nat.add_zero, q47.cell]
    cases x with
    | none =>
      simp only [eU, Bool.not_false, cond_true]
      have hj1 : ¬ i + 1 < e := fun hlt' => by
        obtain ⟨y, hy⟩ := hz.full (i + 1) (Nat.le_refl _) hlt'
        rw [hll, hp, hx] at hy; cases hy
      have : i + 1 = e := by omega
      subst this
      exact hj _ _ hk47 ⟨rfl, ⟨fb47, hmk47, by omega⟩, Lc, hm47.ht, hm47.len, T_imp hm47.t fun i' p' hX => no_Xe _ _ _ _ _ hX, hm47.has, hm47.cnt⟩
    | some y =>
      obtain ⟨k0, n0⟩ := y
      have hj1 : i + 1 < e := by
        rcases Nat.lt_or_ge (i + 1) e with h | h
        · exact h
        · have : i + 1 = e := by omega
          have hf := hz.free
          rw [← this, hll, hp, hx] at hf; cases hf
      simp only [eU, Bool.not_true, eKey, eN, cond_false, ex_some, List.getElem?_cons_zero, LdV_some, dec_slice, dec_ptr, q2.cell, hm47.ht.hd.cell] at q47 ⊢
      refine AtIx_row (b := s) (o := 0) (by simp [slA, hnc]) (by omega) (by simp only; omega) ?_
      simp only [Int.toNat_natCast, Nat.zero_add]
      refine St_ent hm47.ht (by omega) none fun w55 h55 f55 => ?_
      have q2 := q2.fr f55 (by omega)
      have q55 := q47.fr f55 (by omega)
      simp only [StN_nil, List.getElem?_cons_zero, LdV_some, dec_ptr, dec_str, Nat.zero_add, q2.cell, q55.cell]
      have hx' : Lc[cy Lc.length (i0 + (i + 1))]? = some (some (k0, n0)) := by rw [hll, hp]; exact hx
      have hmt := hm.t
      rw [← hll] at hmt
      obtain ⟨hex, hstep⟩ := zone_step hz hj1 (by rw [hll]; exact hH) hmt hx'
      rw [hll, hp] at hex
      have hln1 : (Lc.set p none).length = L.length := by rw [List.length_set, hll]
      have hn1 : Lc.set p none ≠ [] := by intro hx0; rw [hx0] at hln1; simp at hln1; omega
      obtain ⟨d0, hd0⟩ := hex
      have hsz0 := h.keys k0 n0 ((hm.has k0 n0).1 ⟨p, hx⟩).2
      refine cm_hash_Table_find (hfind_ok h55 hn1 hsz0 ⟨d0, hd0.lt, by rw [hln1]; exact hd0.stop⟩) ?_
      rintro at1 t1 w60 ⟨⟨d, hd, rfl, _⟩, f60⟩
      rw [hln1] at hd
      have h60 : HT w60.drew b s (Lc.set p none) _ most := (h55.frn f60).frn fun S => Fr8.drew _ S
      have q60 := (q55.fr (f60 fun _ => False) (by simp)).drew
      have q2 := (q2.fr (f60 fun _ => False) (by simp)).drew
      obtain ⟨hz2, ht2, hhas2, hcnt2⟩ := hstep d (by rw [hll, hp]; exact hd)
      rw [hll, hp] at hz2 ht2 hhas2 hcnt2
      have hqlt : cy L.length (homeN k0 L.length + d) < L.length := cy_lt (by have := hd.lt; have := hH k0; omega)
      simp only [ex_some, List.getElem?_cons_zero, List.getElem?_cons_succ, LdV_some, dec_slice, dec_int, dec_bool, dec_ptr, dec_str, q2.cell, q60.cell, h60.hd.cell]
      refine AtIx_row (b := s) (o := 0) (by simp [slA, hn1]) (by omega) (by simp only; rw [hln1]; omega) ?_
      simp only [Int.toNat_natCast, Nat.zero_add]
      rw [hln1]
      refine St_ent h60 (by rw [hln1]; exact hqlt) (some (k0, n0)) fun w70 h70 f70 => ?_
      have f4770 : Fr8 w47 w70 (· = s) := ((f55.trans (f60 _) fun _ _ e => e).trans (Fr8.drew _ _) fun _ _ e => e).trans f70 fun _ _ e => e
      refine hn _ ?_ ⟨by omega, ⟨fb47.trans f4770 fun _ _ e => e, ?_, by have := f4770.size; omega⟩, _, ⟨h70, ?_, ht2, fun k' n' => ?_, ?_⟩, hz2⟩
      · rw [f4770.same _ (by omega) (by omega)]; exact hk47
      · rw [f4770.same _ (by omega) (by omega)]; exact hmk47
      · simp [hll]
      · rw [hhas2]; exact hm.has k' n'
      · rw [hcnt2]; exact hm.cnt
  · rintro W ⟨hi, _⟩
    omega
  · rintro W ⟨hx, _⟩
    cases hx
  · rintro id W ⟨hx, hF, Lc, hm⟩
    cases hx
    show CloseP _ _ _
    refine ⟨hF.mark, ?_⟩
    have pf := Fr8.putObj W w31.heap.size (.deferred none)
    have hm := hm.fr pf (by omega) (by omega)
    refine ⟨by simp [hM], ⟨Lc, ⟨?_, ?_, ?_, ?_, h.most0, h.most1, ?_, ?_, ?_⟩, ?_⟩, ?_⟩
    · rw [hm.cnt]; exact hm.ht
    · have := hm.t; rw [← hm.len] at this; exact this
    · have := hm.cnt; have := hm.len; omega
    · intro k' n'
      rw [hm.has, upd]
      by_cases hkk : k' = k
      · simp [hkk]
      · simp [hkk, h.m]
    · rw [hm.len]; exact h.sz
    · intro hx
      have := hm.len
      rw [hx] at this; simp at this; omega
    · exact fun k' n' hx => h.keys k' n' ((hm.has k' n').1 hx).2
    · have := hm.cnt; simp [hM]; omega
    · exact (hb31.trans hF.fr fun x hx e => .inr e).trans pf fun x hx e => by
        have e' : x = w31.heap.size := e
        omega
end Go.Proofs
