import Derived.Test.YtgnlnicmgnkliaaSes1
/- Sessions in memory. -/
namespace Go.Proofs
open Gp Gp.Hash
open Gp.Ses (Ses Slots live GoodS freeN getS ids)
open Gp.Bind (In64)
set_option maxRecDepth 100000

def slotV : Option Ses → List Value
  | none => [.int .i64 0, .int .i64 0, .int .i64 0, .int .i64 0, .int .i64 0, .bool false]
  | some b => [.int .i64 b.bd, .int .i64 b.st, .int .i64 b.un, .int .i64 b.ra, .int .i64 b.rp, .bool true]
theorem slotV_len (o : Option Ses) : (slotV o).length = 6 := by cases o <;> rfl
theorem slotV_one (o : Option Ses) : (slotV o).all isOne = true := by cases o <;> rfl
theorem slotV_used (o : Option Ses) : (slotV o)[5]? = some (.bool o.isSome) := by cases o <;> rfl

def encI (k : Int) : Value := .int .i64 k
def slV (s : SliceV) : Value := .slice s.a s.len s.cap
abbrev OL := List (Int × SliceV)

theorem eqI (a b : Int) : eqT Try.prog 16 3 (encI a) (encI b) = some (decide (a = b)) := by
  have h : eqT Try.prog 16 3 (.int .i64 a) (.int .i64 b) = some (a == b) := by kernel_rfl
  rw [encI, encI, h]
  congr 1
theorem keyI (a : Int) : keyOK Try.prog 3 (encI a) = true := by
  have h : keyOK Try.prog 3 (.int .i64 a) = true := by kernel_rfl
  exact h

/-- The blocks of the bindings' own numbers. -/
def ownB (l : OL) (b : Nat) : Prop := ∃ k s, lkF l k = some s ∧ SliceV.at s b

structure OwnM (w : World) (m : Nat) (l : OL) (S : Slots) : Prop where
  mp : MapF encI slV w m l
  nd : (l.map (·.1)).Nodup
  has : ∀ k s, lkF l k = some s → BufN 1 eI w s (ids S k)
  non : ∀ k, lkF l k = none → ids S k = []
  ap : ∀ k k' s s' b, k ≠ k' → lkF l k = some s → lkF l k' = some s' → SliceV.at s b → ¬ SliceV.at s' b
  ne : ∀ b, ownB l b → b ≠ m

section
variable {w w' : World} {m : Nat} {l : OL} {S S' : Slots}

theorem OwnM.fr {F : Nat → Prop} (h : OwnM w m l S) (hf : Fr8 w w' F) (hm : ¬ F m) (ho : ∀ b, ownB l b → ¬ F b) : OwnM w' m l S :=
  ⟨h.mp.fr hf hm, h.nd, fun k s hk => (h.has k s hk).fr hf fun b hb => ho b ⟨k, s, hk, hb⟩, h.non, h.ap, h.ne⟩

theorem OwnM.lt (h : OwnM w m l S) {b : Nat} (hb : ownB l b) : b < w.heap.size := by
  obtain ⟨k, s, hk, hs⟩ := hb
  exact (h.has k s hk).lt hs

/-- What the map has of a binding. -/
def lkS (l : OL) (k : Int) : SliceV := (lkF l k).getD ⟨none, 0, 0⟩

theorem lkS_at {k : Int} {b : Nat} (h : SliceV.at (lkS l k) b) : ∃ s, lkF l k = some s ∧ lkS l k = s ∧ SliceV.at s b := by
  unfold lkS at h ⊢
  cases hl : lkF l k with
  | none => rw [hl] at h; obtain ⟨o, ho⟩ := h; cases ho
  | some s => rw [hl] at h; exact ⟨s, rfl, rfl, h⟩

theorem OwnM.buf (h : OwnM w m l S) (k : Int) : BufN 1 eI w (lkS l k) (ids S k) := by
  unfold lkS
  cases hl : lkF l k with
  | none => rw [h.non k hl]; exact BufN.nil
  | some s => exact h.has k s hl

theorem OwnM.get (h : OwnM w m l S) (k : Int) {K : SliceV → Prop} (hK : K (lkS l k)) : MapGet Try.prog 3 .slice (some m) (.int .i64 k) (.slice none 0 0) w K := by
  refine MapGet_F (enc := encI) h.mp eqI k (keyI k) ?_ ?_
  · intro hl
    rw [lkS, hl] at hK
    rw [dec_slice]; exact hK
  · intro s hl
    rw [lkS, hl] at hK
    rw [slV, dec_slice]; exact hK

/-- A binding's numbers are set. -/
theorem OwnM.set (h : OwnM w m l S) {bd : Int} {s' : SliceV} {F : Nat → Prop} (hf : Fr8 w w' F) (hm : ¬ F m) (ho : ∀ b, ownB l b → F b → SliceV.at (lkS l bd) b) (hb : BufN 1 eI w' s' (ids S' bd)) (hn : ∀ b, SliceV.at s' b → SliceV.at (lkS l bd) b ∨ w.heap.size ≤ b)
    (hS : ∀ k, k ≠ bd → ids S' k = ids S k) {K : World → Prop} (hK : ∀ w2, OwnM w2 m (upF l bd s') S' → Fr8 w' w2 (· = m) → w2.heap.size = w'.heap.size → K w2) : MapSet Try.prog 3 (some m) (.int .i64 bd) (.slice s'.a s'.len s'.cap) w' K := by
  have mlt := h.mp.lt
  have old : ∀ b, SliceV.at (lkS l bd) b → ownB l b := fun b hb => by
    obtain ⟨s, h1, _, h2⟩ := lkS_at hb
    exact ⟨bd, s, h1, h2⟩
  have nm : ∀ b, SliceV.at s' b → b ≠ m := fun b hb e => by
    rcases hn b hb with h1 | h1
    · exact h.ne b (old b h1) e
    · omega
  have ap : ∀ k s b, k ≠ bd → lkF l k = some s → SliceV.at s b → ¬ SliceV.at s' b := fun k s b hk hl hs hb => by
    rcases hn b hb with h1 | h1
    · obtain ⟨s2, g1, _, g2⟩ := lkS_at h1
      exact h.ap k bd s s2 b hk hl g1 hs g2
    · have := h.lt ⟨k, s, hl, hs⟩; omega
  refine MapSet_F (enc := encI) (ev := slV) (h.mp.fr hf hm) eqI bd s' (keyI bd) fun w2 g2 f2 z2 => ?_
  refine hK w2 ⟨g2, up_nodup h.nd bd s', fun k s hk => ?_, fun k hk => ?_, fun k k' s s2 b hkk h1 h2 h3 => ?_, fun b hb => ?_⟩ f2 z2
  · rw [lk_up] at hk
    split at hk
    · rename_i e; subst e; cases hk
      exact hb.fr f2 nm
    · rename_i e
      rw [hS k e]
      refine ((h.has k s hk).fr hf fun b hb hF => ?_).fr f2 fun b hb => h.ne b ⟨k, s, hk, hb⟩
      obtain ⟨s2, g1, _, g2⟩ := lkS_at (ho b ⟨k, s, hk, hb⟩ hF)
      exact h.ap k bd s s2 b e hk g1 hb g2
  · rw [lk_up] at hk
    split at hk
    · cases hk
    · rename_i e
      rw [hS k e]; exact h.non k hk
  · rw [lk_up] at h1 h2
    split at h1
    · rename_i e1
      split at h2
      · rename_i e2; exact absurd (e1.trans e2.symm) hkk
      · rename_i e2; cases h1
        exact fun h4 => ap k' s2 b e2 h2 h4 h3
    · rename_i e1
      split at h2
      · cases h2; exact ap k s b e1 h1 h3
      · exact h.ap k k' s s2 b hkk h1 h2 h3
  · obtain ⟨k, s, hk, hs⟩ := hb
    rw [lk_up] at hk
    split at hk
    · cases hk; exact nm b hs
    · exact h.ne b ⟨k, s, hk, hs⟩

theorem ownB_up {bd : Int} {s' : SliceV} {b : Nat} (hb : ownB (upF l bd s') b) : SliceV.at s' b ∨ ownB l b := by
  obtain ⟨k, s, hk, hs⟩ := hb
  rw [lk_up] at hk
  split at hk
  · cases hk; exact .inl hs
  · exact .inr ⟨k, s, hk, hs⟩

theorem OwnM.del (h : OwnM w m l S) {bd : Int} (hS : ids S bd = []) {K : World → Prop} (hK : ∀ w2, OwnM w2 m (delF l bd) S → Fr8 w w2 (· = m) → w2.heap.size = w.heap.size → K w2) : MapDel Try.prog 3 (some m) (.int .i64 bd) w K := by
  refine MapDel_F (enc := encI) (ev := slV) h.mp eqI bd (keyI bd) fun w2 g2 f2 z2 => ?_
  have lk : ∀ k, lkF (delF l bd) k = if k = bd then none else lkF l k := fun k => lk_del h.nd bd k
  refine hK w2 ⟨g2, h.nd.sublist ((del_sub l bd).map _), fun k s hk => ?_, fun k hk => ?_, fun k k' s s2 b hkk h1 h2 h3 => ?_, fun b hb => ?_⟩ f2 z2
  · rw [lk] at hk
    split at hk
    · cases hk
    · exact (h.has k s hk).fr f2 fun b hb => h.ne b ⟨k, s, hk, hb⟩
  · rw [lk] at hk
    split at hk
    · rename_i e; rw [e, hS]
    · exact h.non k hk
  · rw [lk] at h1 h2
    split at h1
    · cases h1
    · split at h2
      · cases h2
      · exact h.ap k k' s s2 b hkk h1 h2 h3
  · obtain ⟨k, s, hk, hs⟩ := hb
    rw [lk] at hk
    split at hk
    · cases hk
    · exact h.ne b ⟨k, s, hk, hs⟩

theorem ownB_del (h : (l.map (·.1)).Nodup) {bd : Int} {b : Nat} (hb : ownB (delF l bd) b) : ownB l b := by
  obtain ⟨k, s, hk, hs⟩ := hb
  rw [lk_del h] at hk
  split at hk
  · cases hk
  · exact ⟨k, s, hk, hs⟩
end

structure Adr where
  d : Nat
  sl : Nat
  ti : Nat
  si : Nat
  m : Nat
  l : OL

def fp (A : Adr) (b : Nat) : Prop := b = A.d ∨ b = A.sl ∨ b = A.ti ∨ b = A.si ∨ b = A.m ∨ ownB A.l b

structure Adr.ne (A : Adr) : Prop where
  p : A.d ≠ A.sl ∧ A.d ≠ A.ti ∧ A.d ≠ A.si ∧ A.d ≠ A.m ∧ A.sl ≠ A.ti ∧ A.sl ≠ A.si ∧ A.sl ≠ A.m ∧ A.ti ≠ A.m ∧ A.si ≠ A.m
  o : ∀ b, ownB A.l b → b ≠ A.d ∧ b ≠ A.sl ∧ b ≠ A.ti ∧ b ≠ A.si

structure TA (w : World) (A : Adr) (most : Nat) (S : Slots) (M : ByteArray → Option Int) : Prop where
  hd : Row w A.d [.slice (some ⟨A.sl, 0, none⟩) most most, .pointer (some ⟨A.ti, 0, none⟩), .map (some A.m), .int .i64 ((live 0 S).length : Int)]
  row : Row w A.sl (S.flatMap slotV)
  len : S.length = most
  mx : most ≤ 4096
  tb : ∃ L, TB w A.ti A.si L most M ∧ cnt L = (live 0 S).length
  own : OwnM w A.m A.l S
  good : GoodS S M
  ne : A.ne

section
variable {w w' : World} {A : Adr} {most : Nat} {S : Slots} {M : ByteArray → Option Int}

theorem TA.fr {F : Nat → Prop} (h : TA w A most S M) (hf : Fr8 w w' F) (hs : ∀ b, fp A b → ¬ F b) : TA w' A most S M := by
  obtain ⟨L, h1, h2⟩ := h.tb
  exact ⟨h.hd.fr hf (hs _ (.inl rfl)), h.row.fr hf (hs _ (.inr (.inl rfl))), h.len, h.mx, ⟨L, h1.fr hf (hs _ (.inr (.inr (.inl rfl)))) (hs _ (.inr (.inr (.inr (.inl rfl))))), h2⟩,
    h.own.fr hf (hs _ (.inr (.inr (.inr (.inr (.inl rfl)))))) (fun b hb => hs _ (.inr (.inr (.inr (.inr (.inr hb)))))), h.good, h.ne⟩

theorem TA.ext (h : TA w A most S M) (hf : Ext w w') : TA w' A most S M := h.fr (hf fun _ => False) (fun _ _ => by simp)

theorem tb_lt {b s : Nat} {L : List Ent} {mo : Int} (t : TB w b s L mo M) : s < w.heap.size := by
  by_cases hL : L = []
  · rw [t.nils hL]; exact t.ht.hd.lt
  · exact (t.ht.row hL).lt

theorem TA.lt (h : TA w A most S M) {x : Nat} (hx : fp A x) : x < w.heap.size := by
  obtain ⟨L, h1, h2⟩ := h.tb
  rcases hx with rfl | rfl | rfl | rfl | rfl | hx
  · exact h.hd.lt
  · exact h.row.lt
  · exact h1.ht.hd.lt
  · exact tb_lt h1
  · exact h.own.mp.lt
  · exact h.own.lt hx

theorem TA.slot (h : TA w A most S M) {i : Nat} {o : Option Ses} (hi : S[i]? = some o) (j : Nat) (hj : j < 6) : w.cell? ⟨A.sl, i * 6 + j, none⟩ = (slotV o)[j]? := by
  rw [h.row.cell, flat_get slotV 6 slotV_len _ _ j hj, hi]; rfl

theorem tready_ok (h : TA w A most S M) : c_session_Table_ready (some ⟨A.d, 0, none⟩) w fun r w' => r = true ∧ w' = w := by
  apply ok_session_Table_ready
  unfold s_session_Table_ready
  simp only [Option.isNone_some, cond_true, ex_some, Ld_eq, List.getElem?_cons_zero, List.getElem?_cons_succ, LdV_some, dec_ptr, add_mk, Nat.zero_add, h.hd.cell, Bool.not_false]
  exact ⟨by trivial, by trivial⟩

theorem tfind_ok (h : TA w A most S M) (bd ra rp : Int) (hq : ∀ n ∈ [bd, ra, rp], In64 n) :
    c_session_Table_Find (some ⟨A.d, 0, none⟩) bd ra rp w fun n t w' => t = (M (Bind.keyS [bd, ra, rp])).isSome ∧ n = (M (Bind.keyS [bd, ra, rp])).getD 0 ∧ Ext w w' := by
  apply ok_session_Table_Find
  unfold s_session_Table_Find
  refine Al_e fun p w1 r1 _ _ f1 => ?_
  refine cm_session_Table_ready (tready_ok (h.ext f1)) ?_
  rintro _ w2 ⟨rfl, hw⟩
  subst hw
  have h2 := (h.ext f1).ext (Ext.drew _)
  simp only [Bool.not_true, cond_false, ex_some, Ld_eq, List.getElem?_cons_zero, List.getElem?_cons_succ, LdV_some, dec_int, dec_ptr, add_mk, Nat.zero_add, Nat.add_zero, h2.hd.cell, r1.drew.cell]
  refine cm_session_key (skey_ok bd ra rp hq _) ?_
  rintro _ w3 ⟨rfl, f3⟩
  have h3 := h2.ext f3
  simp only [true_and, List.getElem?_cons_zero, List.getElem?_cons_succ, h3.hd.cell]
  obtain ⟨L, hL, _⟩ := h3.tb
  refine cm_hash_Table_Get (hget_ok hL _ (keyS_size _ (by simp))) ?_
  rintro n t w4 ⟨f4, rfl, rfl⟩
  exact ⟨rfl, rfl, ((f1.trans (Ext.drew _)).trans f3).trans f4⟩

theorem tlen_ok (h : TA w A most S M) : c_session_Table_Len (some ⟨A.d, 0, none⟩) w fun n w' => n = ((live 0 S).length : Int) ∧ w' = w := by
  apply ok_session_Table_Len
  unfold s_session_Table_Len
  refine cm_session_Table_ready (tready_ok h) ?_
  rintro _ w2 ⟨rfl, hw⟩
  subst hw
  simp only [Bool.not_true, cond_false, ex_some, Ld_eq, List.getElem?_cons_zero, List.getElem?_cons_succ, LdV_some, dec_int, add_mk, Nat.zero_add, h.hd.cell]
  exact ⟨by trivial, by trivial⟩

theorem freeN_take : ∀ {S : Slots} {i : Nat}, freeN S = some i ↔ S[i]? = some none ∧ ∀ j, j < i → ∃ b, S[j]? = some (some b)
  | [], i => by simp [freeN]
  | none :: r, i => by
    simp only [freeN, Option.some.injEq]
    constructor
    · rintro rfl; exact ⟨rfl, by omega⟩
    · rintro ⟨_, h2⟩
      cases i with
      | zero => rfl
      | succ i => obtain ⟨b, hb⟩ := h2 0 (by omega); simp at hb
  | some c :: r, i => by
    simp only [freeN, Option.map_eq_some_iff]
    constructor
    · rintro ⟨k, hk, rfl⟩
      obtain ⟨h1, h2⟩ := freeN_take.1 hk
      refine ⟨by simpa using h1, fun j hj => ?_⟩
      cases j with
      | zero => exact ⟨c, rfl⟩
      | succ j => simpa using h2 j (by omega)
    · rintro ⟨h1, h2⟩
      cases i with
      | zero => simp at h1
      | succ i => exact ⟨i, freeN_take.2 ⟨by simpa using h1, fun j hj => by simpa using h2 (j + 1) (by omega)⟩, rfl⟩

theorem freeN_all : ∀ {S : Slots}, (∀ j, j < S.length → ∃ b, S[j]? = some (some b)) → freeN S = none
  | [], _ => rfl
  | none :: r, h => by obtain ⟨b, hb⟩ := h 0 (by simp); simp at hb
  | some c :: r, h => by
    simp only [freeN, Option.map_eq_none_iff]
    exact freeN_all fun j hj => by simpa using h (j + 1) (by simp; omega)

theorem callV_fn {f : FuncId} {cap : Array Value} {sh : List Shape} {args : List Value} {w : World} {K : Value → World → Prop} (hb : hasBody Try.prog f = true) (h : CallP Try.prog sh f (args ++ cap.toList) w K) :
    CallV Try.prog sh (.func (.func f) #[] cap) args w K := by
  unfold CallV
  simp only [hb, cond_true]
  exact h

theorem unused_ok (o : Option Ses) (W : World) {v0 v1 v2 v3 v4 : Int} {v5 : Bool} (hv : slotV o = [.int .i64 v0, .int .i64 v1, .int .i64 v2, .int .i64 v3, .int .i64 v4, .bool v5]) : c_session_Table_Add_1 v0 v1 v2 v3 v4 v5 W fun r W' => r = !o.isSome ∧ Ext W W' := by
  apply ok_session_Table_Add_1
  unfold s_session_Table_Add_1
  refine Al_e fun a w1 r1 e1 z1 f1 => ?_
  simp only [Ld_eq, List.getElem?_cons_zero, List.getElem?_cons_succ, LdV_some, dec_bool, add_mk, Nat.zero_add, r1.cell]
  have := slotV_used o
  rw [hv] at this
  simp only [List.getElem?_cons_zero, List.getElem?_cons_succ, Option.some.injEq, Value.bool.injEq] at this
  exact ⟨by rw [this], f1⟩

theorem islot_ok (h : TA w A most S M) : c_slices_IndexFunc_session_slot_session_slot ⟨some ⟨A.sl, 0, none⟩, most, most⟩ (Value.func (.func 54) #[] #[]) w fun r w' => Ext w w' ∧ ((freeN S = none ∧ r = -1) ∨ ∃ i, freeN S = some i ∧ r = (i : Int)) := by
  apply ok_slices_IndexFunc_session_slot_session_slot
  unfold s_slices_IndexFunc_session_slot_session_slot
  have hm := h.mx
  have hl := h.len
  refine LoopP_inv (fun st W => Ext w W ∧ ∃ i : Nat, i ≤ most ∧ st.1 = (i : Int) ∧ ∀ j, j < i → ∃ b, S[j]? = some (some b)) (fun st _ => most - st.1.toNat) ⟨Ext.refl _, 0, by omega, rfl, by omega⟩ ?_
  rintro ⟨x, ⟨⟩⟩ W ⟨hx, i, hi, rfl, hp⟩ next hnext
  have h1 := h.ext hx
  by_cases hlt : i < most
  · have hlt' : ((i : Int) < (most : Int)) := by omega
    have hS : S[i]? = some S[i] := List.getElem?_eq_getElem (by omega)
    generalize S[i] = o at hS
    have c : ∀ j, j < 6 → _ := h1.slot hS
    have c0 := c 0 (by omega)
    have c1 := c 1 (by omega)
    have c2 := c 2 (by omega)
    have c3 := c 3 (by omega)
    have c4 := c 4 (by omega)
    have c5 := c 5 (by omega)
    simp only [Nat.add_zero] at c0
    have step : ∀ W', Ext W W' → (∃ b, o = some b) → next (IntKind.i64.wrap ((i : Int) + 1), ()) W' := by
      rintro W' hx' ⟨b, rfl⟩
      rw [wrap_i64 (by omega) (by omega)]
      refine hnext _ _ ⟨hx.trans hx', i + 1, by omega, by simp, fun j hj => ?_⟩ (by simp only; omega)
      by_cases hji : j < i
      · exact hp j hji
      · have : j = i := by omega
        subst this; exact ⟨b, hS⟩
    cases o with
    | none =>
      simp only [slotV, List.getElem?_cons_zero, List.getElem?_cons_succ] at c0 c1 c2 c3 c4 c5
      simp only [hlt', decide_true, cond_true, Ld_eq, LdV_some, dec_int, dec_bool, AtIx_some, add_mk, Nat.zero_add, Nat.add_zero, Int.toNat_natCast, c0, c1, c2, c3, c4, c5]
      refine ⟨by omega, by trivial, callV_fn (by kernel_rfl) ?_⟩
      refine Calls.mono (unused_ok none W rfl) ?_
      rintro e W' ⟨r, he, rfl, hf⟩
      refine ⟨_, he, _, rfl, ?_⟩
      simp only [Option.isSome_none, Bool.not_false, cond_true]
      exact ⟨hx.trans hf, .inr ⟨i, freeN_take.2 ⟨hS, hp⟩, rfl⟩⟩
    | some b =>
      simp only [slotV, List.getElem?_cons_zero, List.getElem?_cons_succ] at c0 c1 c2 c3 c4 c5
      simp only [hlt', decide_true, cond_true, Ld_eq, LdV_some, dec_int, dec_bool, AtIx_some, add_mk, Nat.zero_add, Nat.add_zero, Int.toNat_natCast, c0, c1, c2, c3, c4, c5]
      refine ⟨by omega, by trivial, callV_fn (by kernel_rfl) ?_⟩
      refine Calls.mono (unused_ok (some b) W rfl) ?_
      rintro e W' ⟨r, he, rfl, hf⟩
      refine ⟨_, he, _, rfl, ?_⟩
      simp only [Option.isSome_some, Bool.not_true, cond_false]
      exact step W' hf ⟨b, rfl⟩
  · have hlt' : ¬ ((i : Int) < (most : Int)) := by omega
    simp only [hlt', decide_false, cond_false]
    exact ⟨hx, .inl ⟨freeN_all (S := S) fun j hj => hp j (by omega), by trivial⟩⟩

theorem getS_out {S : Slots} {id : Int} (h : id < 0 ∨ (S.length : Int) ≤ id) : getS S id = none := by
  unfold Gp.Ses.getS
  split
  · rw [List.getElem?_eq_none (by omega)]; rfl
  · rfl

theorem getS_in {S : Slots} {id : Int} (h0 : 0 ≤ id) {o : Option Ses} (h : S[id.toNat]? = some o) : getS S id = o := by
  unfold Gp.Ses.getS
  rw [if_pos h0, h]; rfl

theorem thas_ok (h : TA w A most S M) (id : Int) : c_session_Table_has (some ⟨A.d, 0, none⟩) id w fun r w' => r = (getS S id).isSome ∧ w' = w := by
  apply ok_session_Table_has
  unfold s_session_Table_has
  have hl := h.len
  refine cm_session_Table_ready (tready_ok h) ?_
  rintro _ w2 ⟨rfl, hw⟩
  subst hw
  simp only [cond_true]
  by_cases c1 : id ≥ 0
  · simp only [c1, decide_true, cond_true, ex_some, Ld_eq, List.getElem?_cons_zero, LdV_some, dec_slice, AtIx_some, add_mk, Nat.zero_add, h.hd.cell]
    by_cases c2 : id < (most : Int)
    · have hS : S[id.toNat]? = some S[id.toNat] := List.getElem?_eq_getElem (by omega)
      generalize S[id.toNat] = o at hS
      simp only [c2, decide_true, cond_true, LdV_some, dec_bool, h.slot hS 5 (by omega), slotV_used]
      refine ⟨by first | trivial | omega, by first | trivial | omega, ?_, by trivial⟩
      rw [getS_in c1 hS]
    · simp only [c2, decide_false, cond_false]
      exact ⟨by rw [getS_out (.inr (by omega))]; rfl, by trivial⟩
  · simp only [c1, decide_false, cond_false]
    exact ⟨by rw [getS_out (.inl (by omega))]; rfl, by trivial⟩

/-- The results are this session. -/
def SesR (b : Ses) (a1 a2 a3 a4 a5 : Int) : Prop := a1 = b.bd ∧ a2 = b.st ∧ a3 = b.un ∧ a4 = b.ra ∧ a5 = b.rp

def Ses0 : Ses := ⟨0, 0, 0, 0, 0⟩

theorem tget_ok (h : TA w A most S M) (id : Int) : c_session_Table_Get (some ⟨A.d, 0, none⟩) id w fun a1 a2 a3 a4 a5 r w' => r = (getS S id).isSome ∧ SesR ((getS S id).getD Ses0) a1 a2 a3 a4 a5 ∧ Ext w w' := by
  apply ok_session_Table_Get
  unfold s_session_Table_Get
  have hl := h.len
  refine Al_e fun p w1 r1 e1 z1 f1 => ?_
  have h1 := h.ext f1
  refine cm_session_Table_has (thas_ok h1 id) ?_
  rintro _ w2 ⟨rfl, hw⟩
  subst hw
  cases hg : getS S id with
  | none =>
    simp only [Option.isSome_none, Bool.not_false, cond_true]
    refine StN_full r1 rfl rfl fun w3 r3 f3 _ => ?_
    simp only [true_and, Ld_eq, List.getElem?_cons_zero, List.getElem?_cons_succ, LdV_some, dec_int, add_mk, Nat.zero_add, Nat.add_zero, r3.cell]
    exact ⟨⟨rfl, rfl, rfl, rfl, rfl⟩, f1.new (f3 (· = p) rfl) fun y hy e => by omega⟩
  | some b =>
    obtain ⟨g0, g1⟩ := Gp.Ses.getS_some.1 hg
    have gl := (List.getElem?_eq_some_iff.1 g1).1
    have c : ∀ j, j < 6 → _ := h1.slot g1
    have c0 := c 0 (by omega)
    have c1 := c 1 (by omega)
    have c2 := c 2 (by omega)
    have c3 := c 3 (by omega)
    have c4 := c 4 (by omega)
    simp only [Nat.add_zero] at c0
    simp only [Option.isSome_some, Bool.not_true, cond_false, ex_some, Ld_eq, List.getElem?_cons_zero, List.getElem?_cons_succ, LdV_some, dec_slice, dec_int, AtIx_some, add_mk, Nat.zero_add, Nat.add_zero, h1.hd.cell, c0, c1, c2, c3, c4, slotV]
    refine ⟨by omega, by omega, StN_full r1 rfl rfl fun w3 r3 f3 _ => ?_⟩
    simp only [true_and, List.getElem?_cons_zero, List.getElem?_cons_succ, LdV_some, dec_int, r3.cell]
    exact ⟨⟨rfl, rfl, rfl, rfl, rfl⟩, f1.new (f3 (· = p) rfl) fun y hy e => by omega⟩

theorem flat_set6 {S : Slots} {i : Nat} (hi : i < S.length) (o : Option Ses) : (S.flatMap slotV).take (i * 6) ++ slotV o ++ (S.flatMap slotV).drop (i * 6 + 6) = (S.set i o).flatMap slotV := by
  have e1 : (S.flatMap slotV).take (i * 6) = (S.take i).flatMap slotV := by
    have h : S = S.take i ++ S.drop i := (List.take_append_drop i S).symm
    have hl : ((S.take i).flatMap slotV).length = i * 6 := by rw [flat_len slotV 6 slotV_len]; simp; omega
    conv => lhs; rw [h, List.flatMap_append]
    rw [← hl]; simp
  have e2 : (S.flatMap slotV).drop (i * 6 + 6) = (S.drop (i + 1)).flatMap slotV := by
    have h : S = S.take (i + 1) ++ S.drop (i + 1) := (List.take_append_drop (i + 1) S).symm
    have hl : ((S.take (i + 1)).flatMap slotV).length = i * 6 + 6 := by rw [flat_len slotV 6 slotV_len]; simp; omega
    conv => lhs; rw [h, List.flatMap_append]
    rw [← hl]; simp
  rw [e1, e2, List.set_eq_take_append_cons_drop, if_pos hi, List.flatMap_append, List.flatMap_cons, List.append_assoc]

/-- A slot is written. -/
theorem St_slot (h : Row w A.sl (S.flatMap slotV)) {i : Nat} (hi : i < S.length) (o : Option Ses) {K : World → Prop} (hK : ∀ w', Row w' A.sl ((S.set i o).flatMap slotV) → Fr8 w w' (· = A.sl) → w'.heap.size = w.heap.size → K w') : StN (slotV o) w ⟨A.sl, i * 6, none⟩ 0 K := by
  refine StN_row (slotV o) w _ (i * 6) 0 h (fun v hv => List.all_eq_true.1 (slotV_one o) v hv) ?_ fun w1 r1 f1 z1 => ?_
  · rw [slotV_len, flat_len slotV 6 slotV_len]; omega
  · rw [Nat.add_zero, slotV_len, flat_set6 hi] at r1
    exact hK w1 r1 (f1 _ rfl) z1
end
end Go.Proofs
