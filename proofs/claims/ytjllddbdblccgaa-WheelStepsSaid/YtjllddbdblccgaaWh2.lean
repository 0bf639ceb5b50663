import Derived.Test.YtjllddbdblccgaaWh1
/- A wheel in memory. -/
namespace Go.Proofs
open Gp Gp.Wh
set_option maxRecDepth 100000

theorem xor_i64 {a b : Nat} (ha : a < 2 ^ 63) (hb : b < 2 ^ 63) : xorI .i64 (a : Int) (b : Int) = ((a ^^^ b : Nat) : Int) := by
  unfold xorI
  have h1 : (BitVec.ofInt (IntKind.bits .i64) (a : Int)).toNat = a := by rw [bits64, BitVec.toNat_ofInt]; omega
  have h2 : (BitVec.ofInt (IntKind.bits .i64) (b : Int)).toNat = b := by rw [bits64, BitVec.toNat_ofInt]; omega
  rw [BitVec.toNat_xor, h1, h2]
  have : a ^^^ b < 2 ^ 63 := Nat.xor_lt_two_pow ha hb
  rw [wrap_i64 (by omega) (by omega)]

theorem p64 (n : Nat) : 2 ^ (6 * n) = 64 ^ n := by rw [Nat.pow_mul]

theorem xor_div (a b n : Nat) : (a ^^^ b) / 64 ^ n = (a / 64 ^ n) ^^^ (b / 64 ^ n) := by
  rw [← p64, ← Nat.shiftRight_eq_div_pow, ← Nat.shiftRight_eq_div_pow, ← Nat.shiftRight_eq_div_pow, Nat.shiftRight_xor_distrib]

theorem xor_zero {a b : Nat} : a ^^^ b = 0 ↔ a = b := by
  constructor
  · intro h
    refine Nat.eq_of_testBit_eq fun i => ?_
    have := congrArg (fun x => Nat.testBit x i) h
    simp only [Nat.testBit_xor, Nat.zero_testBit] at this
    revert this
    cases a.testBit i <;> cases b.testBit i <;> simp
  · rintro rfl; exact Nat.xor_self a

theorem level_ok {now a : Nat} (h1 : now ≤ 2 ^ 40) (h2 : a ≤ 2 ^ 40) (w : World) : c_wheel_level now a w fun r w' => (∃ n : Nat, r = (n : Int) ∧ Lv now a n) ∧ w' = w := by
  apply ok_wheel_level
  unfold s_wheel_level
  rw [xor_i64 (by omega) (by omega)]
  have hx : now ^^^ a < 2 ^ 41 := Nat.xor_lt_two_pow (by omega) (by omega)
  refine LoopP_inv (fun st W => W = w ∧ ∃ n : Nat, st.1 = (n : Int) ∧ st.2.1 = (((now ^^^ a) / 64 ^ n : Nat) : Int) ∧ n ≤ 7 ∧ (n = 0 ∨ now / 64 ^ n ≠ a / 64 ^ n)) (fun st _ => st.2.1.toNat) ⟨rfl, 0, rfl, by simp, by omega, .inl rfl⟩ ?_
  rintro ⟨i, d, ⟨⟩⟩ W ⟨rfl, n, hi, hd, hn, hne⟩ next hnext
  simp only at hi hd
  subst hi hd
  generalize hD : (now ^^^ a) / 64 ^ n = D
  have e1 : (now ^^^ a) / 64 ^ (n + 1) = D / 64 := by rw [div_succ, hD]
  by_cases hge : (D : Int) ≥ 64
  · rw [decide_eq_true hge, cond_true]
    refine ⟨by omega, ?_⟩
    have hD7 : n < 7 := by
      refine Classical.byContradiction fun h => ?_
      have : (now ^^^ a) / 64 ^ n = 0 := by
        refine Nat.div_eq_of_lt (Nat.lt_of_lt_of_le hx ?_)
        calc 2 ^ 41 ≤ 64 ^ 7 := by decide
          _ ≤ 64 ^ n := Nat.pow_le_pow_right (by omega) (by omega)
      omega
    rw [wrap_i64 (by omega) (by omega), show (6 : Int) = ((6 : Nat) : Int) from rfl, shr_i64 (by omega)]
    refine hnext _ _ ⟨rfl, n + 1, by simp, by rw [e1], by omega, .inr fun he => ?_⟩ (by simp only [Int.toNat_natCast]; omega)
    rw [xor_div, he, Nat.xor_self] at e1
    omega
  · rw [decide_eq_false hge, cond_false]
    refine ⟨⟨n, rfl, ?_, hne⟩, rfl⟩
    have : D / 64 = 0 := Nat.div_eq_of_lt (by omega)
    rw [this, xor_div, xor_zero] at e1
    exact e1

def encW (k : Int) : Value := .int .i64 k
def slV (s : SliceV) : Value := .slice s.a s.len s.cap
def evT (t : Tm) : Value := .agg ⟨eT t⟩

theorem eqW (a b : Int) : eqT Try.prog 16 3 (encW a) (encW b) = some (decide (a = b)) := by
  have h : eqT Try.prog 16 3 (.int .i64 a) (.int .i64 b) = some (a == b) := by kernel_rfl
  rw [encW, encW, h]
  congr 1
theorem keyW (a : Int) : keyOK Try.prog 3 (encW a) = true := by
  have h : keyOK Try.prog 3 (.int .i64 a) = true := by kernel_rfl
  exact h

theorem MapGetV_F {α β : Type} [DecidableEq α] {enc : α → Value} {ev : β → Value} {w : World} {r : Nat} {l : List (α × β)} {P : Program} {kt : TypeId} (h : MapF enc ev w r l) (hE : ∀ a b : α, eqT P 16 kt (enc a) (enc b) = some (decide (a = b))) (a : α) (hk : keyOK P kt (enc a) = true) {z : Value} {K : Value → Bool → Prop}
    (h0 : lkF l a = none → K z false) (h1 : ∀ b, lkF l a = some b → K (ev b) true) : MapGetV P kt (some r) (enc a) z w K := by
  obtain ⟨es, c, g1, g2⟩ := h
  refine ⟨hk, .inr ⟨r, es, c, rfl, g1, ?_⟩⟩
  cases hl : lkF l a with
  | none =>
    cases l with
    | nil =>
      have : es.toList = [] := by simpa using g2
      exact ⟨none, by rw [this]; rfl, h0 hl⟩
    | cons x l' =>
      rcases findV_F hE a x.2 es.toList _ 0 g2 with ⟨_, q2, _⟩ | ⟨j, v, e, q1, _⟩
      · exact ⟨_, q2, h0 hl⟩
      · rw [hl] at q1; cases q1
  | some b =>
    rcases findV_F hE a b es.toList _ 0 g2 with ⟨q1, _, _⟩ | ⟨j, v, e, q1, q2, _⟩
    · rw [hl] at q1; cases q1
    · rw [hl] at q1; cases q1
      exact ⟨_, q2, h1 b hl⟩

theorem MapLen_F {α β : Type} {enc : α → Value} {ev : β → Value} {w : World} {r : Nat} {l : List (α × β)} (h : MapF enc ev w r l) {K : Int → Prop} (hK : K (l.length : Int)) : MapLen w (some r) K := by
  obtain ⟨es, c, h1, h2⟩ := h
  refine ⟨es, c, h1, ?_⟩
  have : es.size = l.length := by
    have := congrArg List.length h2
    simpa using this
  rw [this]; exact hK

abbrev PL := List (Int × Tm)

def atS (ss : List SliceV) (b : Nat) : Prop := ∃ (i : Nat) (s : SliceV), ss[i]? = some s ∧ SliceV.at s b
def fpW (d m : Nat) (ss : List SliceV) (b : Nat) : Prop := b = d ∨ b = m ∨ atS ss b

/-- The wheel at d, its map at m, its slots' slices ss; what it has: l by ids, F by slots. -/
structure WM (w : World) (d m : Nat) (ss : List SliceV) (l : PL) (now : Nat) (tn most : Int) (F : Fs) : Prop where
  hd : Row w d (ss.map slV ++ [.map (some m), .int .i64 (now : Int), .int .i64 tn, .int .i64 most])
  len : ss.length = 448
  mp : MapF encW evT w m l
  nd : (l.map (·.1)).Nodup
  buf : ∀ n k, n < 7 → k < 64 → ∃ s, ss[n * 64 + k]? = some s ∧ BufN 3 eT w s (F n k)
  ap : ∀ (i j : Nat) s s' b, i ≠ j → ss[i]? = some s → ss[j]? = some s' → SliceV.at s b → ¬ SliceV.at s' b
  ne : ∀ b, atS ss b → b ≠ d ∧ b ≠ m
  dm : d ≠ m
  sm : ∀ n k, n < 7 → k < 64 → (F n k).length ≤ 2 ^ 21

section
variable {w w' : World} {d m : Nat} {ss : List SliceV} {l : PL} {now : Nat} {tn most : Int} {F : Fs}

theorem WM.fr {S : Nat → Prop} (h : WM w d m ss l now tn most F) (hf : Fr8 w w' S) (hs : ∀ b, fpW d m ss b → ¬ S b) : WM w' d m ss l now tn most F :=
  ⟨h.hd.fr hf (hs _ (.inl rfl)), h.len, h.mp.fr hf (hs _ (.inr (.inl rfl))), h.nd, fun n k hn hk => by
    obtain ⟨s, h1, h2⟩ := h.buf n k hn hk
    exact ⟨s, h1, h2.fr hf fun b hb => hs b (.inr (.inr ⟨_, s, h1, hb⟩))⟩, h.ap, h.ne, h.dm, h.sm⟩
theorem WM.ext (h : WM w d m ss l now tn most F) (hf : Ext w w') : WM w' d m ss l now tn most F := h.fr (hf fun _ => False) (fun _ _ => by simp)

theorem WM.slot_ix (h : WM w d m ss l now tn most F) {b : Nat} (hb : atS ss b) : ∃ n k s, n < 7 ∧ k < 64 ∧ ss[n * 64 + k]? = some s ∧ SliceV.at s b ∧ BufN 3 eT w s (F n k) := by
  obtain ⟨i, s, hi, hs⟩ := hb
  have hlt := (List.getElem?_eq_some_iff.1 hi).1
  have hl := h.len
  obtain ⟨s', h1, h2⟩ := h.buf (i / 64) (i % 64) (by omega) (by omega)
  have e : i / 64 * 64 + i % 64 = i := by omega
  rw [e, hi] at h1
  cases h1
  exact ⟨i / 64, i % 64, s, by omega, by omega, by rw [e]; exact hi, hs, h2⟩

theorem WM.lt (h : WM w d m ss l now tn most F) {b : Nat} (hb : fpW d m ss b) : b < w.heap.size := by
  rcases hb with rfl | rfl | hb
  · exact h.hd.lt
  · exact h.mp.lt
  · obtain ⟨n, k, s, _, _, _, h1, h2⟩ := h.slot_ix hb
    exact h2.lt h1

theorem WM.cell (h : WM w d m ss l now tn most F) (j : Nat) : w.cell? ⟨d, j, none⟩ = (ss.map slV ++ [.map (some m), .int .i64 (now : Int), .int .i64 tn, .int .i64 most])[j]? := by rw [h.hd.cell]

theorem WM.c448 (h : WM w d m ss l now tn most F) : w.cell? ⟨d, 448, none⟩ = some (.map (some m)) := by
  rw [h.hd.cell, List.getElem?_append_right (by rw [List.length_map, h.len]; omega), List.length_map, h.len]; rfl
theorem WM.c449 (h : WM w d m ss l now tn most F) : w.cell? ⟨d, 449, none⟩ = some (.int .i64 (now : Int)) := by
  rw [h.hd.cell, List.getElem?_append_right (by rw [List.length_map, h.len]; omega), List.length_map, h.len]; rfl
theorem WM.c450 (h : WM w d m ss l now tn most F) : w.cell? ⟨d, 450, none⟩ = some (.int .i64 tn) := by
  rw [h.hd.cell, List.getElem?_append_right (by rw [List.length_map, h.len]; omega), List.length_map, h.len]; rfl
theorem WM.c451 (h : WM w d m ss l now tn most F) : w.cell? ⟨d, 451, none⟩ = some (.int .i64 most) := by
  rw [h.hd.cell, List.getElem?_append_right (by rw [List.length_map, h.len]; omega), List.length_map, h.len]; rfl
theorem WM.cs (h : WM w d m ss l now tn most F) {i : Nat} {s : SliceV} (hi : ss[i]? = some s) : w.cell? ⟨d, i, none⟩ = some (.slice s.a s.len s.cap) := by
  have hlt := (List.getElem?_eq_some_iff.1 hi).1
  rw [h.hd.cell, List.getElem?_append_left (by rw [List.length_map]; exact hlt), List.getElem?_map, hi]; rfl

/-- A slot gets other timers. -/
theorem WM.setS (h : WM w d m ss l now tn most F) {n k : Nat} (hn : n < 7) (hk : k < 64) {s : SliceV} (hs : ss[n * 64 + k]? = some s) {w1 : World} {s' : SliceV} {L : List Tm} {S : Nat → Prop} (hf : Fr8 w w1 S) (hS : ∀ b, fpW d m ss b → S b → SliceV.at s b)
    (hb : BufN 3 eT w1 s' L) (hnw : ∀ b, SliceV.at s' b → SliceV.at s b ∨ w.heap.size ≤ b) (hL : L.length ≤ 2 ^ 21) {K : World → Prop}
    (hK : ∀ w2, WM w2 d m (ss.set (n * 64 + k) s') l now tn most (updF F n k L) → Fr8 w1 w2 (· = d) → w2.heap.size = w1.heap.size → K w2) : St w1 ⟨d, n * 64 + k, none⟩ (.slice s'.a s'.len s'.cap) K := by
  have hl := h.len
  have hix : n * 64 + k < ss.length := by omega
  have atd : ¬ SliceV.at s d := fun e => (h.ne d ⟨_, s, hs, e⟩).1 rfl
  have atm : ¬ SliceV.at s m := fun e => (h.ne m ⟨_, s, hs, e⟩).2 rfl
  have hd1 := h.hd.fr hf fun e => atd (hS d (.inl rfl) e)
  have hset : ∀ j, (ss.set (n * 64 + k) s')[j]? = if n * 64 + k = j then some s' else ss[j]? := fun j => by
    rw [List.getElem?_set]
    split
    · first | rfl | rw [if_pos hix]
    · rfl
  refine St_row hd1 rfl (by rw [List.length_append, List.length_map]; omega) fun w2 r2 f2 z2 => ?_
  have f2d := f2 (· = d) rfl
  rw [List.set_append_left _ _ (by rw [List.length_map]; exact hix), ← (show (ss.set (n * 64 + k) s').map slV = (ss.map slV).set (n * 64 + k) (Value.slice s'.a s'.len s'.cap) from List.map_set)] at r2
  have s'd : ∀ b, SliceV.at s' b → b ≠ d ∧ b ≠ m := fun b hb' => by
    rcases hnw b hb' with e | e
    · exact h.ne b ⟨_, s, hs, e⟩
    · have q1 := h.lt (.inl rfl : fpW d m ss d)
      have q2 := h.lt (.inr (.inl rfl) : fpW d m ss m)
      exact ⟨by omega, by omega⟩
  have s'o : ∀ b j u, j ≠ n * 64 + k → ss[j]? = some u → SliceV.at u b → ¬ SliceV.at s' b := fun b j u hj hu hub hb' => by
    rcases hnw b hb' with e | e
    · exact h.ap j _ u s b hj hu hs hub e
    · have := h.lt (.inr (.inr ⟨j, u, hu, hub⟩) : fpW d m ss b); omega
  refine hK w2 ⟨r2, by rw [List.length_set]; exact hl, (h.mp.fr hf fun e => atm (hS m (.inr (.inl rfl)) e)).fr f2d (fun e => h.dm e.symm), h.nd, fun n' k' hn' hk' => ?_, fun i j u u' b hij hi hj hu hu' => ?_, fun b hb' => ?_, h.dm, fun n' k' hn' hk' => ?_⟩ f2d z2
  · rw [hset]
    unfold updF
    by_cases e : n' = n ∧ k' = k
    · rw [if_pos e, if_pos (by rw [e.1, e.2])]
      exact ⟨s', rfl, hb.fr f2d fun b hb' => (s'd b hb').1⟩
    · rw [if_neg e, if_neg (by omega)]
      obtain ⟨u, h1, h2⟩ := h.buf n' k' hn' hk'
      refine ⟨u, h1, (h2.fr hf fun b hub hSb => ?_).fr f2d fun b hub => (h.ne b ⟨_, u, h1, hub⟩).1⟩
      exact h.ap _ _ u s b (by omega) h1 hs hub (hS b (.inr (.inr ⟨_, u, h1, hub⟩)) hSb)
  · rw [hset] at hi hj
    split at hi
    · rename_i e1
      split at hj
      · omega
      · rename_i e2
        cases hi
        exact s'o b j u' (by omega) hj hu' hu
    · rename_i e1
      split at hj
      · cases hj; exact s'o b i u (by omega) hi hu hu'
      · exact h.ap i j u u' b hij hi hj hu hu'
  · obtain ⟨j, u, hj, hu⟩ := hb'
    rw [hset] at hj
    split at hj
    · cases hj; exact s'd b hu
    · exact h.ne b ⟨j, u, hj, hu⟩
  · unfold updF
    split
    · exact hL
    · exact h.sm n' k' hn' hk'

/-- A head's number is changed. -/
theorem WM.setH (h : WM w d m ss l now tn most F) {now' : Nat} {tn' : Int} {j : Nat} {v : Value} (hv : isOne v = true) (hj : (ss.map slV ++ [Value.map (some m), Value.int .i64 (now : Int), Value.int .i64 tn, Value.int .i64 most]).set j v = ss.map slV ++ [Value.map (some m), Value.int .i64 (now' : Int), Value.int .i64 tn', Value.int .i64 most]) (hj2 : j < 452) {K : World → Prop}
    (hK : ∀ w2, WM w2 d m ss l now' tn' most F → Fr8 w w2 (· = d) → w2.heap.size = w.heap.size → K w2) : St w ⟨d, j, none⟩ v K := by
  refine St_row h.hd hv (by rw [List.length_append, List.length_map, h.len]; exact hj2) fun w2 r2 f2 z2 => ?_
  rw [hj] at r2
  have f2d := f2 (· = d) rfl
  exact hK w2 ⟨r2, h.len, h.mp.fr f2d (fun e => h.dm e.symm), h.nd, fun n k hn hk => by
    obtain ⟨s, h1, h2⟩ := h.buf n k hn hk
    exact ⟨s, h1, h2.fr f2d fun b hb => (h.ne b ⟨_, s, h1, hb⟩).1⟩, h.ap, h.ne, h.dm, h.sm⟩ f2d z2

theorem WM.setNow (h : WM w d m ss l now tn most F) (now' : Nat) {K : World → Prop}
    (hK : ∀ w2, WM w2 d m ss l now' tn most F → Fr8 w w2 (· = d) → w2.heap.size = w.heap.size → K w2) : St w ⟨d, 449, none⟩ (.int .i64 (now' : Int)) K :=
  h.setH rfl (by rw [List.set_append_right _ _ (by rw [List.length_map, h.len]; omega), List.length_map, h.len]; rfl) (by omega) hK
theorem WM.setTn (h : WM w d m ss l now tn most F) (tn' : Int) {K : World → Prop}
    (hK : ∀ w2, WM w2 d m ss l now tn' most F → Fr8 w w2 (· = d) → w2.heap.size = w.heap.size → K w2) : St w ⟨d, 450, none⟩ (.int .i64 tn') K :=
  h.setH rfl (by rw [List.set_append_right _ _ (by rw [List.length_map, h.len]; omega), List.length_map, h.len]; rfl) (by omega) hK

theorem WM.setM (h : WM w d m ss l now tn most F) (t : Tm) {K : World → Prop}
    (hK : ∀ w2, WM w2 d m ss (upF l t.id t) now tn most F → Fr8 w w2 (· = m) → w2.heap.size = w.heap.size → K w2) : MapSet Try.prog 3 (some m) (.int .i64 t.id) (.agg ⟨eT t⟩) w K :=
  MapSet_F (enc := encW) (ev := evT) h.mp eqW t.id t (keyW _) fun w2 g2 f2 z2 => hK w2 ⟨h.hd.fr f2 h.dm, h.len, g2, up_nodup h.nd _ _, fun n k hn hk => by
    obtain ⟨s, h1, h2⟩ := h.buf n k hn hk
    exact ⟨s, h1, h2.fr f2 fun b hb => (h.ne b ⟨_, s, h1, hb⟩).2⟩, h.ap, h.ne, h.dm, h.sm⟩ f2 z2
theorem WM.delM (h : WM w d m ss l now tn most F) (id : Int) {K : World → Prop}
    (hK : ∀ w2, WM w2 d m ss (delF l id) now tn most F → Fr8 w w2 (· = m) → w2.heap.size = w.heap.size → K w2) : MapDel Try.prog 3 (some m) (.int .i64 id) w K :=
  MapDel_F (enc := encW) (ev := evT) h.mp eqW id (keyW _) fun w2 g2 f2 z2 => hK w2 ⟨h.hd.fr f2 h.dm, h.len, g2, h.nd.sublist ((del_sub l id).map _), fun n k hn hk => by
    obtain ⟨s, h1, h2⟩ := h.buf n k hn hk
    exact ⟨s, h1, h2.fr f2 fun b hb => (h.ne b ⟨_, s, h1, hb⟩).2⟩, h.ap, h.ne, h.dm, h.sm⟩ f2 z2

theorem wready_ok (h : WM w d m ss l now tn most F) : c_wheel_Wheel_ready (some ⟨d, 0, none⟩) w fun r w' => r = true ∧ w' = w := by
  apply ok_wheel_Wheel_ready
  unfold s_wheel_Wheel_ready
  simp only [Option.isNone_some, cond_true, ex_some, Ld_eq, LdV_some, dec_map, add_mk, Nat.zero_add, h.c448, Bool.not_false]
  exact ⟨by trivial, by trivial⟩

theorem wlen_ok (h : WM w d m ss l now tn most F) : c_wheel_Wheel_Len (some ⟨d, 0, none⟩) w fun n w' => n = (l.length : Int) ∧ w' = w := by
  apply ok_wheel_Wheel_Len
  unfold s_wheel_Wheel_Len
  refine cm_wheel_Wheel_ready (wready_ok h) ?_
  rintro _ w2 ⟨rfl, hw⟩
  subst hw
  simp only [Bool.not_true, cond_false, ex_some, Ld_eq, LdV_some, dec_map, add_mk, Nat.zero_add, h.c448]
  exact MapLen_F h.mp ⟨by trivial, by trivial⟩

theorem dg_ok {a n : Nat} (hn : n < 7) : andI .i64 (shrI .i64 (a : Int) (IntKind.i64.wrap (6 * (n : Int)))) 63 = ((dg a n : Nat) : Int) ∧ IntKind.i64.wrap (6 * (n : Int)) = ((6 * n : Nat) : Int) := by
  have e : IntKind.i64.wrap (6 * (n : Int)) = ((6 * n : Nat) : Int) := by rw [wrap_i64 (by omega) (by omega)]; omega
  refine ⟨?_, e⟩
  rw [e, shr_i64 (by omega), p64]
  unfold dg
  have : ∀ x : Nat, andI .i64 (x : Int) 63 = ((x % 64 : Nat) : Int) := by
    intro x
    unfold andI
    have h1 : (BitVec.ofInt (IntKind.bits .i64) (x : Int)).toNat = x % 2 ^ 64 := by rw [bits64, BitVec.toNat_ofInt]; omega
    have h2 : (BitVec.ofInt (IntKind.bits .i64) 63).toNat = 2 ^ 6 - 1 := by rw [bits64, BitVec.toNat_ofInt]; rfl
    rw [BitVec.toNat_and, h1, h2, and_low, wrap_i64 (by omega) (by omega)]
    omega
  exact this _

theorem wslot_ok (h : WM w d m ss l now tn most F) (h1 : now ≤ 2 ^ 40) {a : Nat} (h2 : a ≤ 2 ^ 40) : c_wheel_Wheel_slot (some ⟨d, 0, none⟩) (a : Int) w fun r w' => (∃ n, n < 7 ∧ Lv now a n ∧ r = some ⟨d, n * 64 + dg a n, none⟩) ∧ Ext w w' := by
  apply ok_wheel_Wheel_slot
  unfold s_wheel_Wheel_slot
  simp only [ex_some, Ld_eq, LdV_some, dec_int, add_mk, Nat.zero_add, h.c449]
  refine cm_wheel_level (level_ok h1 h2 w) ?_
  rintro r w1 ⟨⟨n, rfl, hl⟩, hw⟩
  subst hw
  have hn := hl.lt h1 h2
  obtain ⟨e1, e2⟩ := dg_ok (a := a) hn
  have hd := dg_lt a n
  rw [e1, e2]
  simp only [Int.toNat_natCast, Nat.mul_one]
  exact ⟨by omega, by omega, by omega, by omega, by omega, ⟨n, hn, hl, rfl⟩, Ext.drew _⟩

theorem wput_ok (h : WM w d m ss l now tn most F) (h1 : now ≤ 2 ^ 40) (t : Tm) (h2 : t.a ≤ 2 ^ 40) (hl : ∀ n k, n < 7 → k < 64 → (F n k).length < 2 ^ 21) :
    c_wheel_Wheel_put (some ⟨d, 0, none⟩) t.id (t.a : Int) t.tn w fun w' => Fr8 w w' (fpW d m ss) ∧ ∃ n ss', n < 7 ∧ Lv now t.a n ∧ WM w' d m ss' l now tn most (updF F n (dg t.a n) (F n (dg t.a n) ++ [t])) ∧ ∀ b, fpW d m ss' b → fpW d m ss b ∨ w.heap.size ≤ b := by
  apply ok_wheel_Wheel_put
  unfold s_wheel_Wheel_put
  refine Al_e fun p w1 r1 e1 z1 f1 => ?_
  have hw1 := h.ext f1
  simp only [Ld_eq, List.getElem?_cons_zero, List.getElem?_cons_succ, LdV_some, dec_int, add_mk, Nat.zero_add, Nat.add_zero, r1.cell]
  refine cm_wheel_Wheel_slot (wslot_ok hw1 h1 h2) ?_
  rintro _ w2 ⟨⟨n, hn, hlv, rfl⟩, f2⟩
  have x2 := f1.trans (f2.trans (Ext.drew w2))
  have h2w := h.ext x2
  have r2 := (r1.ext f2).drew
  have hk := dg_lt t.a n
  obtain ⟨s, hs, hb⟩ := h2w.buf n (dg t.a n) hn hk
  have hll := hl n (dg t.a n) hn hk
  simp only [ex_some, List.getElem?_cons_zero, List.getElem?_cons_succ, LdV_some, dec_slice, dec_int, h2w.cs hs, r2.cell]
  refine Al_e fun q w3 r3 e3 z3 f3 => ?_
  have h3 := h2w.ext f3
  simp only [true_and, h3.cs hs]
  have hel : SlN 3 eT w3 ⟨some ⟨q, 0, none⟩, 1, 1⟩ [t] := (BufN.row (xs := [t]) (f := eT) (n := 3) (by simpa using r3)).sl eT_len (by omega)
  refine AppSl_bufN eT_len (hb.ext f3) hel rfl (by omega) eT_one (by simp only [List.length_singleton]; omega) (by simp only [List.length_singleton]; omega) fun s4 w4 b4 f4 n4 => ?_
  have x3 := x2.trans f3
  refine h3.setS hn hk hs f4 (fun b _ hb => hb) b4 n4 (by rw [List.length_append, List.length_singleton]; omega) fun w5 h5 f5 z5 => ?_
  have hat : ∀ b, SliceV.at s b → fpW d m ss b := fun b hb => .inr (.inr ⟨_, s, hs, hb⟩)
  refine ⟨((x3 (fpW d m ss)).trans (f4.mono hat) fun _ _ e => e).trans f5 fun b _ e => .inl e, n, _, hn, hlv, h5, fun b hb => ?_⟩
  rcases hb with hb | hb | ⟨j, u, hj, hu⟩
  · exact .inl (.inl hb)
  · exact .inl (.inr (.inl hb))
  · rw [List.getElem?_set] at hj
    split at hj
    · split at hj
      · cases hj
        rcases n4 b hu with e | e
        · exact .inl (hat b e)
        · exact .inr (Nat.le_trans x3.size e)
      · cases hj
    · exact .inl (.inr (.inr ⟨j, u, hj, hu⟩))

theorem wtake_ok (h : WM w d m ss l now tn most F) (h1 : now ≤ 2 ^ 40) (t : Tm) (h2 : t.a ≤ 2 ^ 40) :
    c_wheel_Wheel_take (some ⟨d, 0, none⟩) t.id (t.a : Int) t.tn w fun w' => Fr8 w w' (fpW d m ss) ∧ ∃ n ss', n < 7 ∧ Lv now t.a n ∧ WM w' d m ss' l now tn most (updF F n (dg t.a n) ((F n (dg t.a n)).filter fun x => !(x.id == t.id))) ∧ ∀ b, fpW d m ss' b → fpW d m ss b ∨ w.heap.size ≤ b := by
  apply ok_wheel_Wheel_take
  unfold s_wheel_Wheel_take
  refine Al_e fun p w1 r1 e1 z1 f1 => ?_
  have hw1 := h.ext f1
  simp only [Ld_eq, List.getElem?_cons_zero, List.getElem?_cons_succ, LdV_some, dec_int, add_mk, Nat.zero_add, r1.cell]
  refine cm_wheel_Wheel_slot (wslot_ok hw1 h1 h2) ?_
  rintro _ w2 ⟨⟨n, hn, hlv, rfl⟩, f2⟩
  have x2 := f1.trans f2
  have h2w := h.ext x2
  have r2 := r1.ext f2
  have hk := dg_lt t.a n
  obtain ⟨s, hs, hb⟩ := h2w.buf n (dg t.a n) hn hk
  have hll := h.sm n (dg t.a n) hn hk
  have hat : ∀ b, SliceV.at s b → fpW d m ss b := fun b hb => .inr (.inr ⟨_, s, hs, hb⟩)
  have hp : ∀ b, fpW d m ss b → b ≠ p := fun b hb => by have := h.lt hb; omega
  simp only [ex_some, LdV_some, dec_slice, h2w.cs hs]
  have isId : FnT (Value.func (.func 86) #[] #[.pointer (some ⟨p, 0, none⟩)]) (fun W => Row W p (eT t)) (fun x => x.id == t.id) := by
    intro x W K hC hK
    refine callV_fn (by kernel_rfl) ?_
    have : c_wheel_Wheel_take_1 x.id x.a x.tn ⟨p, 0, none⟩ W fun r W' => r = (x.id == t.id) ∧ Ext W W' := by
      apply ok_wheel_Wheel_take_1
      unfold s_wheel_Wheel_take_1
      refine Al_e fun q W1 q1 _ _ g1 => ?_
      simp only [Ld_eq, List.getElem?_cons_zero, LdV_some, dec_int, q1.cell, (hC.ext g1).cell]
      exact ⟨by trivial, g1⟩
    refine Calls.mono this ?_
    rintro e W' ⟨r, he, rfl, hf⟩
    exact ⟨_, he, hK W' hf⟩
  refine cm_slices_DeleteFunc_wheel_timer_wheel_timer (delT_ok hb (by omega) isId fun W hf => r2.fr hf fun e => hp p (hat p e) rfl) ?_
  rintro s4 w4 ⟨b4, f4, n4⟩
  refine h2w.setS hn hk hs f4 (fun b _ hb => hb) b4 (fun b hb => .inl (n4 b hb)) (Nat.le_trans (List.length_filter_le ..) hll) fun w5 h5 f5 z5 => ?_
  refine ⟨((x2 (fpW d m ss)).trans (f4.mono hat) fun _ _ e => e).trans f5 fun b _ e => .inl e, n, _, hn, hlv, h5, fun b hb => ?_⟩
  rcases hb with hb | hb | ⟨j, u, hj, hu⟩
  · exact .inl (.inl hb)
  · exact .inl (.inr (.inl hb))
  · rw [List.getElem?_set] at hj
    split at hj
    · split at hj
      · cases hj
        exact .inl (hat b (n4 b hu))
      · cases hj
    · exact .inl (.inr (.inr ⟨j, u, hj, hu⟩))
end
end Go.Proofs
