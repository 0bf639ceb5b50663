import Derived.Test.YtfldbmdomfhmpaaHash
namespace Go.Proofs
open Gp Gp.Hash

/-- A table that was made behind w0. -/
structure Own (w0 w : World) (b : Nat) (c : Nat) (most : Int) (M : ByteArray → Option Int) : Prop where
  ex : ∃ s L, TB w b s L most M ∧ w0.heap.size ≤ s ∧ cnt L = c
  lb : w0.heap.size ≤ b
  fr : ∀ S, Fr8 w0 w S

theorem Own.frn {w0 w w' : World} {b c : Nat} {most : Int} {M : ByteArray → Option Int} (h : Own w0 w b c most M) (hf : ∀ S, Fr8 w w' S) : Own w0 w' b c most M := by
  obtain ⟨⟨s, L, ht, hs, hc⟩, hb, hfr⟩ := h
  exact ⟨⟨s, L, ht.frn hf, hs, hc⟩, hb, fun S => (hfr S).trans (hf S) fun _ _ e => e⟩

theorem put_own {w0 w : World} {b c : Nat} {most : Int} {M : ByteArray → Option Int} (h : Own w0 w b c most M) (k : ByteArray) (n : Int) (hk : k.size ≤ 2 ^ 63 - 1) :
    c_hash_Table_Put (some ⟨b, 0, none⟩) k n w fun e w' =>
      (e = 0 ∧ (M k = none → (c : Int) < most) ∧ Own w0 w' b (if (M k).isSome then c else c + 1) most (upd M k (some n))) ∨ (e = 7 ∧ M k = none ∧ most ≤ (c : Int) ∧ Own w0 w' b c most M) := by
  obtain ⟨⟨s, L, ht, hs, rfl⟩, hb, hfr⟩ := h
  have hz := (hfr fun _ => False).size
  refine cm_hash_Table_Put (put_ok ht k n hk) ?_
  rintro e w' (⟨rfl, h1, s', L', ht', hc', hf, hs'⟩ | ⟨rfl, h1, h2, hf⟩)
  · exact .inl ⟨rfl, h1, ⟨⟨s', L', ht', by rcases hs' with h | h <;> omega, hc'⟩, hb, fun S => (hfr S).trans hf fun x hx e => by omega⟩⟩
  · exact .inr ⟨rfl, h1, h2, ⟨⟨s, L, ht.frn hf, hs, rfl⟩, hb, fun S => (hfr S).trans (hf S) fun _ _ e => e⟩⟩

theorem delete_own {w0 w : World} {b c : Nat} {most : Int} {M : ByteArray → Option Int} (h : Own w0 w b c most M) (k : ByteArray) (hk : k.size ≤ 2 ^ 63 - 1) :
    c_hash_Table_Delete (some ⟨b, 0, none⟩) k w fun r w' => r = (M k).isSome ∧ ∃ c', c' + (if (M k).isSome then 1 else 0) = c ∧ Own w0 w' b c' most (upd M k none) := by
  obtain ⟨⟨s, L, ht, hs, rfl⟩, hb, hfr⟩ := h
  refine cm_hash_Table_Delete (delete_ok ht k hk) ?_
  rintro r w' ⟨rfl, ⟨L', ht', hc'⟩, hf⟩
  exact ⟨rfl, _, hc', ⟨s, L', ht', hs, rfl⟩, hb, fun S => (hfr S).trans hf fun x hx e => by omega⟩

theorem get_own {w0 w : World} {b c : Nat} {most : Int} {M : ByteArray → Option Int} (h : Own w0 w b c most M) (k : ByteArray) (hk : k.size ≤ 2 ^ 63 - 1) :
    c_hash_Table_Get (some ⟨b, 0, none⟩) k w fun n t w' => t = (M k).isSome ∧ n = (M k).getD 0 ∧ Own w0 w' b c most M := by
  have h0 := h
  obtain ⟨⟨s, L, ht, hs, rfl⟩, hb, hfr⟩ := h
  refine cm_hash_Table_Get (get_ok ht k hk) ?_
  rintro n t w' ⟨hf, h1, h2⟩
  exact ⟨h1, h2, h0.frn hf⟩

theorem len_own {w0 w : World} {b c : Nat} {most : Int} {M : ByteArray → Option Int} (h : Own w0 w b c most M) :
    c_hash_Table_Len (some ⟨b, 0, none⟩) w fun n w' => n = (c : Int) ∧ w' = w := by
  obtain ⟨⟨s, L, ht, hs, rfl⟩, hb, hfr⟩ := h
  exact len_ok ht

theorem new_own (n : Int) (w0 w : World) (h0 : ∀ S, Fr8 w0 w S) : c_hash_New n w fun p e w' =>
    (0 ≤ n ∧ n ≤ 65536 ∧ e = 0 ∧ ∃ b, p = some ⟨b, 0, none⟩ ∧ Own w0 w' b 0 n fun _ => none) ∨ ((n < 0 ∨ 65536 < n) ∧ e = 1 ∧ p = none ∧ ∀ S, Fr8 w0 w' S) := by
  refine cm_hash_New (hnew_ok n w) ?_
  have hz := (h0 fun _ => False).size
  rintro p e w' ⟨hf, ⟨h1, h2, rfl, b, rfl, hb, ht⟩ | ⟨h1, rfl, rfl⟩⟩
  · exact .inl ⟨h1, h2, rfl, b, rfl, ⟨b, [], ht, by omega, rfl⟩, by omega, fun S => (h0 S).trans (hf S) fun _ _ e => e⟩
  · exact .inr ⟨h1, rfl, rfl, fun S => (h0 S).trans (hf S) fun _ _ e => e⟩

theorem ne_of_size {a b : ByteArray} (h : a.size ≠ b.size) : a ≠ b := fun e => h (by rw [e])

theorem hawake_ok (w : World) : c_law18_awake w fun r w' => r = true ∧ ∀ S, Fr8 w w' S := by
  apply ok_law18_awake
  unfold s_law18_awake
  have ab : (bs [98]) ≠ (bs [97]) := by intro h; simp [bs] at h
  refine cm_hash_New (new_own 1 w w fun S => Fr8.refl _ _) ?_
  rintro p e w1 (⟨_, _, rfl, b, rfl, h⟩ | ⟨h, _⟩)
  case inr => omega
  simp only [bne_self_eq_false, Option.isNone_some, cond_false]
  refine cm_hash_Table_Put (put_own h (bs [97]) 1 (by decide)) ?_
  rintro e w2 (⟨rfl, _, h2⟩ | ⟨rfl, _, hx, _⟩)
  case inr => omega
  simp only [bne_self_eq_false, cond_false]
  refine cm_hash_Table_Put (put_own h2 (bs [98]) 2 (by decide)) ?_
  rintro e w3 (⟨rfl, hx, _⟩ | ⟨rfl, _, _, h3⟩)
  · have := hx (by simp [upd, ab])
    simp at this
  simp only [bne_self_eq_false, cond_false]
  refine cm_hash_Table_Get (get_own h3 (bs [97]) (by decide)) ?_
  rintro n t w4 ⟨rfl, rfl, h4⟩
  simp only [upd, if_true, Option.isSome_some, Option.getD_some, beq_self_eq_true, cond_true]
  refine cm_hash_Table_Delete (delete_own h4 (bs [97]) (by decide)) ?_
  rintro r w5 ⟨rfl, c', hc, h5⟩
  simp only [upd, if_true, Option.isSome_some, Option.isSome_none, cond_true] at hc ⊢
  refine cm_hash_Table_Len (len_own h5) ?_
  rintro n w6 ⟨rfl, rfl⟩
  have : c' = 0 := by simpa using hc
  subst this
  exact ⟨rfl, h5.fr⟩

/-- A list of calls as it came in. -/
structure HDoIn (w : World) (s : SliceV) : Prop where
  at_ : ∀ k, k < s.len → ∃ b o g key i, s.a = some ⟨b, o, none⟩ ∧ b < w.heap.size ∧ w.cell? ⟨b, o + k * 3, none⟩ = some (.int .i64 g) ∧ w.cell? ⟨b, o + k * 3 + 1, none⟩ = some (.string key) ∧ w.cell? ⟨b, o + k * 3 + 2, none⟩ = some (.int .i64 i)

theorem cell_old {w w' : World} {b i : Nat} (hf : ∀ S, Fr8 w w' S) (hb : b < w.heap.size) : w'.cell? ⟨b, i, none⟩ = w.cell? ⟨b, i, none⟩ := by
  have := (hf fun _ => False).same b hb (by simp)
  simp [World.cell?, this]

theorem HDoIn.fr {w w' : World} {s : SliceV} (h : HDoIn w s) (hf : ∀ S, Fr8 w w' S) : HDoIn w' s := by
  refine ⟨fun k hk => ?_⟩
  obtain ⟨b, o, g, key, i, h1, h2, h3, h4, h5⟩ := h.at_ k hk
  exact ⟨b, o, g, key, i, h1, Nat.lt_of_lt_of_le h2 (hf fun _ => False).size, by rw [cell_old hf h2]; exact h3, by rw [cell_old hf h2]; exact h4, by rw [cell_old hf h2]; exact h5⟩

/-- A new place that is filled at once. -/
theorem Al_fill3' {w : World} {T : TypeId} {x y z x' y' z' : Value} {K : Addr → World → Prop} (h1 : isOne x' = true) (h2 : isOne y' = true) (h3 : isOne z' = true)
    (h : ∀ a w', Row w' a [x', y', z'] → w.heap.size ≤ a → (∀ S, Fr8 w w' S) → K ⟨a, 0, none⟩ w') :
    Al w (.cells ⟨[x, y, z]⟩ T) fun a w1 => St w1 (a.add 0) x' fun w2 => St w2 (a.add 1) y' fun w3 => St w3 (a.add 2) z' fun w4 => K a w4 := Al_fill3 h1 h2 h3 h

theorem keeps_ok {w : World} {s : SliceV} {key : ByteArray} (hs : HDoIn w s) : c_law18_HashKeeps s key w fun r w' => r = true ∧ ∀ S, Fr8 w w' S := by
  apply ok_law18_HashKeeps
  unfold s_law18_HashKeeps
  refine cm_law18_awake (hawake_ok w) ?_
  rintro r w2 ⟨rfl, f2⟩
  simp only [Bool.not_true, cond_false]
  have fin : ∀ w', (∀ S, Fr8 w w' S) → c_law18_awake w' fun r w'' => r = true ∧ ∀ S, Fr8 w w'' S := fun w' hf =>
    cm_law18_awake (hawake_ok w') fun r w'' ⟨hr, hf'⟩ => ⟨hr, fun S => (hf S).trans (hf' S) fun _ _ e => e⟩
  by_cases hl : (s.len : Int) > 100
  · simp only [hl, decide_true, cond_true]; exact fin _ f2
  by_cases hk : (key.size : Int) > 200
  · simp only [hl, hk, decide_true, decide_false, cond_true, cond_false]; exact fin _ f2
  simp only [hl, hk, decide_false, cond_false]
  refine cm_hash_New (new_own 200 w w2 f2) ?_
  rintro p e w9 (⟨_, _, rfl, b, rfl, h9⟩ | ⟨h, _⟩)
  case inr => omega
  simp only [bne_self_eq_false, Option.isNone_some, cond_false]
  refine cm_hash_Table_Put (put_own h9 key 77 (by omega)) ?_
  rintro e w10 (⟨rfl, _, h10⟩ | ⟨rfl, _, hx, _⟩)
  case inr => omega
  simp only [bne_self_eq_false, cond_false]
  refine LoopP_inv (fun st W => (∃ i : Nat, i ≤ s.len ∧ st.1 = i ∧ ∃ c M, c ≤ i + 1 ∧ M key = some 77 ∧ Own w W b c 200 M)) (fun st _ => s.len - st.1.toNat) ⟨0, by omega, rfl, _, _, by simp, by simp [upd], h10⟩ ?_
  rintro ⟨x, ⟨⟩⟩ W ⟨i, hi, rfl, c, M, hc, hM, hO⟩ next hnext
  by_cases hlt : i < s.len
  · have hlt' : ((i : Int) < (s.len : Int)) := by omega
    simp only [hlt', decide_true, cond_true]
    obtain ⟨b0, o, g, k, n, ha, hb0, c0, c1, c2⟩ := (hs.fr hO.fr).at_ i hlt
    refine AtIx_row ha (by omega) (by omega) ?_
    simp only [Int.toNat_natCast, Ld_eq, LdV_some, dec_int, dec_str, add_mk, Nat.add_zero, c0, c1, c2]
    refine Al_fill3 rfl rfl rfl fun a23 w26 q26 l26 f26 => ?_
    have e2 : IntKind.i64.wrap ((i : Int) + 1) = ((i + 1 : Nat) : Int) := by rw [wrap_i64 (by omega) (by omega)]; omega
    have hO26 := hO.frn f26
    simp only [List.getElem?_cons_zero, List.getElem?_cons_succ, LdV_some, dec_int, dec_str, add_mk, Nat.zero_add, q26.cell, e2]
    have go : ∀ c' M' W', c' ≤ i + 2 → M' key = some 77 → Own w W' b c' 200 M' → next (((i + 1 : Nat) : Int), ()) W' := fun c' M' W' h1 h2 h3 =>
      hnext _ _ ⟨i + 1, by omega, rfl, c', M', h1, h2, h3⟩ (by simp only; omega)
    cases hse : strEq k key with
    | true =>
      simp only [cond_true]
      exact go c M _ (by omega) hM hO26
    | false =>
      have hkk : key ≠ k := fun e => by rw [strEq_iff.2 e.symm] at hse; cases hse
      simp only [cond_false]
      by_cases hks : (k.size : Int) > 200
      · simp only [hks, decide_true, cond_true]
        exact go c M _ (by omega) hM hO26
      · simp only [hks, decide_false, cond_false]
        by_cases hg : g = 3
        · subst hg
          simp only [beq_self_eq_true, cond_true]
          refine cm_hash_Table_Delete (delete_own hO26 k (by omega)) ?_
          rintro r w32 ⟨rfl, c', hc', h32⟩
          exact go c' _ _ (by omega) (by simp [upd, hkk, hM]) h32
        · have hg' : (g == 3) = false := by simpa using hg
          simp only [hg', cond_false]
          refine cm_hash_Table_Put (put_own hO26 k n (by omega)) ?_
          rintro e w36 (⟨rfl, _, h36⟩ | ⟨rfl, _, hx, _⟩)
          · simp only [bne_self_eq_false, cond_false]
            refine go _ _ _ ?_ (by simp [upd, hkk, hM]) h36
            split <;> omega
          · omega
  · have hlt' : ¬ ((i : Int) < (s.len : Int)) := by omega
    simp only [hlt', decide_false, cond_false]
    refine cm_hash_Table_Get (get_own hO key (by omega)) ?_
    rintro n t w41 ⟨rfl, rfl, h41⟩
    simp only [hM, Option.isSome_some, Option.getD_some, beq_self_eq_true, cond_true]
    refine cm_hash_Table_Delete (delete_own h41 key (by omega)) ?_
    rintro r w46 ⟨rfl, c', hc', h46⟩
    simp only [hM, Option.isSome_some, cond_true]
    refine cm_hash_Table_Delete (delete_own h46 key (by omega)) ?_
    rintro r w48 ⟨rfl, c'', hc'', h48⟩
    simp only [upd, if_true, Option.isSome_none, Bool.not_false, cond_true]
    exact fin _ h48.fr

def keyB (i : Nat) : ByteArray := bs [UInt8.ofNat (i % 256), UInt8.ofNat (i / 256 % 256)]

theorem keyB_inj {i j : Nat} (hi : i < 65536) (hj : j < 65536) (h : keyB i = keyB j) : i = j := by
  simp only [keyB, bs, ByteArray.mk.injEq, Array.mk.injEq, List.cons.injEq, and_true] at h
  have h1 := congrArg UInt8.toNat h.1
  have h2 := congrArg UInt8.toNat h.2
  simp only [UInt8.toNat_ofNat'] at h1 h2
  omega

theorem keyB_size (i : Nat) : (keyB i).size = 2 := rfl

theorem wrap_u8 (n : Int) : IntKind.u8.wrap n = n % 256 := IntKind.wrap_u8 n

theorem key_ok (i : Nat) (hi : i < 65536) (w : World) : c_law18_HashMany_1 (i : Int) w fun r w' => r = keyB i ∧ ∀ S, Fr8 w w' S := by
  apply ok_law18_HashMany_1
  unfold s_law18_HashMany_1
  refine ⟨by omega, Al_row fun a w1 r1 _ _ f1 => ⟨keyB i, rfl, ⟨rfl, fun j hj => ?_⟩, rfl, f1⟩⟩
  rw [add_mk, r1.cell]
  have e1 : IntKind.u8.wrap (i : Int) = ((i % 256 : Nat) : Int) := by rw [wrap_u8]; omega
  have e2 : IntKind.u8.wrap (shrI .i64 (i : Int) 8) = ((i / 256 % 256 : Nat) : Int) := by
    have : shrI .i64 (i : Int) 8 = ((i / 256 : Nat) : Int) := by
      show (i : Int).fdiv (2 ^ (min (8 : Int).toNat (IntKind.bits .i64))) = _
      have : (2 : Int) ^ (min (8 : Int).toNat (IntKind.bits .i64)) = 256 := by decide
      rw [this, Int.fdiv_eq_ediv_of_nonneg _ (by omega)]; omega
    rw [this, wrap_u8]; omega
  rw [e1, e2]
  have hb : byteCells (keyB i) = [.int .u8 ((i % 256 : Nat) : Int), .int .u8 ((i / 256 % 256 : Nat) : Int)] := by
    simp [byteCells, keyB, bs]
  rw [hb, Nat.zero_add]

theorem callKey {i : Nat} (hi : i < 65536) {w : World} {K : Value → World → Prop} (h : ∀ w', (∀ S, Fr8 w w' S) → K (.string (keyB i)) w') : CallV Try.prog [.one .str] (Value.func (.func 12) #[] #[]) [(Value.int .i64 (i : Int))] w K := by
  have hb : hasBody Try.prog 12 = true := by kernel_rfl
  unfold CallV
  simp only [hb, cond_true]
  refine Calls.mono (key_ok i hi w) fun e w' hh => ?_
  obtain ⟨x, he, rfl, hf⟩ := hh
  exact ⟨_, he, h _ hf⟩

/-- What the keys have while they are put. -/
structure Put1 (M : ByteArray → Option Int) (i m : Nat) : Prop where
  low : ∀ j, j < i → M (keyB j) = some (j : Int)
  high : ∀ j, i ≤ j → j < m → M (keyB j) = none
  new : M (bs [110, 101, 119]) = none
def v2 (i j : Nat) : Int := if j % 3 = 0 ∧ j < i then -(j : Int) else j
structure Put2 (M : ByteArray → Option Int) (i m : Nat) : Prop where
  all : ∀ j, j < m → M (keyB j) = some (v2 i j)
  new : M (bs [110, 101, 119]) = none

theorem keyB_new (i : Nat) : bs [110, 101, 119] ≠ keyB i := ne_of_size (by rw [keyB_size]; decide)

theorem many_ok {w : World} {a0 : Int} (h0 : 0 ≤ a0) (h1 : a0 ≤ 65535) : c_law18_HashMany a0 w fun r w' => r = true ∧ ∀ S, Fr8 w w' S := by
  apply ok_law18_HashMany
  unfold s_law18_HashMany
  refine cm_law18_awake (hawake_ok w) ?_
  rintro r w2 ⟨rfl, f2⟩
  simp only [Bool.not_true, cond_false]
  have fin : ∀ w', (∀ S, Fr8 w w' S) → c_law18_awake w' fun r w'' => r = true ∧ ∀ S, Fr8 w w'' S := fun w' hf =>
    cm_law18_awake (hawake_ok w') fun r w'' ⟨hr, hf'⟩ => ⟨hr, fun S => (hf S).trans (hf' S) fun _ _ e => e⟩
  obtain ⟨m, hm, hml⟩ : ∃ m : Nat, IntKind.i64.wrap (Int.tmod a0 700) = (m : Int) ∧ m < 700 := by
    refine ⟨(a0 % 700).toNat, ?_, by omega⟩
    rw [Int.tmod_eq_emod_of_nonneg h0, wrap_i64 (by omega) (by omega)]; omega
  refine ⟨by decide, ?_⟩
  rw [hm]
  refine cm_hash_New (new_own m w w2 f2) ?_
  rintro p e w5 (⟨_, _, rfl, b, rfl, h5⟩ | ⟨h, _⟩)
  case inr => omega
  simp only [bne_self_eq_false, Option.isNone_some, cond_false]
  refine LoopP_inv (fun st W => ∃ i : Nat, i ≤ m ∧ st.1 = i ∧ ∃ M, Put1 M i m ∧ Own w W b i m M) (fun st _ => m - st.1.toNat) ⟨0, by omega, rfl, _, ⟨fun j hj => by omega, fun _ _ _ => rfl, rfl⟩, h5⟩ ?_
  rintro ⟨x, ⟨⟩⟩ W ⟨i, hi, rfl, M, hM, hO⟩ next hnext
  by_cases hlt : i < m
  · have hlt' : ((i : Int) < (m : Int)) := by omega
    simp only [hlt', decide_true, cond_true]
    refine callKey (by omega) fun w12 f12 => ⟨_, rfl, ?_⟩
    refine cm_hash_Table_Put (put_own (hO.frn f12) (keyB i) i (by rw [keyB_size]; decide)) ?_
    rintro e w15 (⟨rfl, _, h15⟩ | ⟨rfl, _, hx, _⟩)
    case inr => omega
    simp only [bne_self_eq_false, cond_false]
    have e2 : IntKind.i64.wrap ((i : Int) + 1) = ((i + 1 : Nat) : Int) := by rw [wrap_i64 (by omega) (by omega)]; omega
    rw [e2]
    have hn := hM.high i (Nat.le_refl _) hlt
    simp only [hn, Option.isSome_none, Bool.false_eq_true, if_false] at h15
    refine hnext _ _ ⟨i + 1, by omega, rfl, _, ⟨fun j hj => ?_, fun j hj hjm => ?_, ?_⟩, h15⟩ (by simp only; omega)
    · unfold upd
      by_cases hji : j = i
      · subst hji; simp
      · rw [if_neg (fun h => hji (keyB_inj (by omega) (by omega) h))]; exact hM.low j (by omega)
    · unfold upd
      rw [if_neg (fun h => by have := keyB_inj (by omega) (by omega) h; omega)]; exact hM.high j (by omega) hjm
    · unfold upd
      rw [if_neg (keyB_new i)]; exact hM.new
  · have hlt' : ¬ ((i : Int) < (m : Int)) := by omega
    have : i = m := by omega
    subst this
    simp only [hlt', decide_false, cond_false]
    clear hnext next
    refine LoopP_inv (fun st W => ∃ k : Nat, 3 * k < i + 3 ∧ st.1 = (3 * k : Nat) ∧ ∃ M, Put2 M (3 * k) i ∧ Own w W b i i M) (fun st _ => i + 3 - st.1.toNat) ⟨0, by omega, rfl, M, ⟨fun j hj => by rw [hM.low j hj]; simp [v2], hM.new⟩, hO⟩ ?_
    clear hM hO
    rintro ⟨x, ⟨⟩⟩ W ⟨k, hk, rfl, M, hM, hO⟩ next hnext
    by_cases hlt : 3 * k < i
    · have hlt' : (((3 * k : Nat) : Int) < (i : Int)) := by omega
      simp only [hlt', decide_true, cond_true]
      refine callKey (by omega) fun w23 f23 => ⟨_, rfl, ?_⟩
      have hMk := hM.all _ hlt
      refine cm_hash_Table_Delete (delete_own (hO.frn f23) (keyB (3 * k)) (by rw [keyB_size]; decide)) ?_
      rintro r w26 ⟨rfl, c', hc', h26⟩
      simp only [hMk, Option.isSome_some, Bool.not_true, cond_false, if_true] at hc' ⊢
      refine callKey (by omega) fun w28 f28 => ⟨_, rfl, ?_⟩
      have e3 : IntKind.i64.wrap (0 - ((3 * k : Nat) : Int)) = -((3 * k : Nat) : Int) := by rw [wrap_i64 (by omega) (by omega)]; omega
      rw [e3]
      refine cm_hash_Table_Put (put_own (h26.frn f28) (keyB (3 * k)) _ (by rw [keyB_size]; decide)) ?_
      rintro e w31 (⟨rfl, _, h31⟩ | ⟨rfl, _, hx, _⟩)
      case inr => omega
      simp only [bne_self_eq_false, cond_false]
      have e2 : IntKind.i64.wrap (((3 * k : Nat) : Int) + 3) = ((3 * (k + 1) : Nat) : Int) := by rw [wrap_i64 (by omega) (by omega)]; omega
      rw [e2]
      have hup : upd M (keyB (3 * k)) none (keyB (3 * k)) = none := by simp [upd]
      simp only [hup, Option.isSome_none, Bool.false_eq_true, if_false, hc'] at h31
      refine hnext _ _ ⟨k + 1, by omega, rfl, _, ⟨fun j hj => ?_, ?_⟩, h31⟩ (by simp only; omega)
      · unfold upd
        by_cases hji : j = 3 * k
        · subst hji
          simp only [if_true, v2]
          rw [if_pos (by omega)]
        · have hne : keyB j ≠ keyB (3 * k) := fun h => hji (keyB_inj (by omega) (by omega) h)
          rw [if_neg hne, if_neg hne, hM.all j hj]
          unfold v2
          by_cases c : j % 3 = 0 ∧ j < 3 * k
          · rw [if_pos c, if_pos (by omega)]
          · rw [if_neg c, if_neg (by omega)]
      · unfold upd
        rw [if_neg (keyB_new _), if_neg (keyB_new _)]; exact hM.new
    · have hlt' : ¬ (((3 * k : Nat) : Int) < (i : Int)) := by omega
      simp only [hlt', decide_false, cond_false]
      clear hnext next
      have hall : ∀ j, j < i → M (keyB j) = some (if j % 3 = 0 then -(j : Int) else j) := fun j hj => by
        rw [hM.all j hj]; unfold v2
        by_cases c : j % 3 = 0
        · rw [if_pos ⟨c, by omega⟩, if_pos c]
        · rw [if_neg (fun h => c h.1), if_neg c]
      refine LoopP_inv (fun st W => ∃ n : Nat, n ≤ i ∧ st.1 = n ∧ Own w W b i i M) (fun st _ => i - st.1.toNat) ⟨0, by omega, rfl, hO⟩ ?_
      rintro ⟨x, ⟨⟩⟩ W ⟨n, hn, rfl, hO⟩ next hnext
      by_cases hlt : n < i
      · have hlt' : ((n : Int) < (i : Int)) := by omega
        simp only [hlt', decide_true, cond_true]
        refine callKey (by omega) fun w36 f36 => ⟨_, rfl, ?_⟩
        refine cm_hash_Table_Get (get_own (hO.frn f36) (keyB n) (by rw [keyB_size]; decide)) ?_
        rintro v t w40 ⟨rfl, rfl, h40⟩
        have e2 : IntKind.i64.wrap ((n : Int) + 1) = ((n + 1 : Nat) : Int) := by rw [wrap_i64 (by omega) (by omega)]; omega
        have e3 : IntKind.i64.wrap (0 - (n : Int)) = -(n : Int) := by rw [wrap_i64 (by omega) (by omega)]; omega
        have e4 : Int.tmod (n : Int) 3 = ((n % 3 : Nat) : Int) := by rw [Int.tmod_eq_emod_of_nonneg (by omega)]; omega
        have nx := hnext (((n + 1 : Nat) : Int), ()) w40 ⟨n + 1, by omega, rfl, h40⟩ (by simp only; omega)
        rw [e2, e3, e4, hall n hlt]
        simp only [Option.isSome_some, Option.getD_some, Bool.not_true, cond_false]
        refine ⟨by decide, ?_⟩
        by_cases c : n % 3 = 0
        · rw [if_pos c, c]
          have c3 : (((0 : Nat) : Int) == 0) = true := by decide
          have c4 : (((0 : Nat) : Int) != 0) = false := by decide
          simp only [c3, c4, bne_self_eq_false, cond_false, cond_true]
          exact ⟨by decide, nx⟩
        · have c1 : (((n % 3 : Nat) : Int) == 0) = false := by simp; omega
          have c2 : (((n % 3 : Nat) : Int) != 0) = true := by simp; omega
          rw [if_neg c]
          simp only [c1, c2, bne_self_eq_false, cond_false, cond_true]
          exact ⟨by decide, nx⟩
      · have hlt' : ¬ ((n : Int) < (i : Int)) := by omega
        simp only [hlt', decide_false, cond_false]
        refine cm_hash_Table_Len (len_own hO) ?_
        rintro r w47 ⟨rfl, rfl⟩
        simp only [beq_self_eq_true, cond_true]
        refine cm_hash_Table_Put (put_own hO (bs [110, 101, 119]) 1 (by decide)) ?_
        rintro e w49 (⟨rfl, hx, _⟩ | ⟨rfl, _, _, h49⟩)
        · have := hx hM.new; omega
        · simp only [beq_self_eq_true, cond_true]
          exact fin _ h49.fr
end Go.Proofs
