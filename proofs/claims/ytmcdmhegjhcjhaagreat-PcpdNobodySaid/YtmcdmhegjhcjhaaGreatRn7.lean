import Derived.Test.YtmcdmhegjhcjhaaGreatRn6
/- A machine that runs closed code over named blocks: operations that touch no memory. -/
namespace Gp.Rn
open Go Gp

theorem lEq_ok : ∀ {a b : List UInt8}, lEq a b = decide (a = b)
  | [], [] => rfl
  | [], _ :: _ => rfl
  | _ :: _, [] => rfl
  | a :: l, b :: m => by
    unfold lEq
    by_cases h : a = b
    · subst h
      rw [show Nat.beq a.toNat a.toNat = true from Nat.beq_refl _, cond_true, lEq_ok]
      by_cases g : l = m
      · subst g; simp
      · rw [decide_eq_false g, decide_eq_false fun e => g (by cases e; rfl)]
    · have : Nat.beq a.toNat b.toNat = false := by
        cases hb : Nat.beq a.toNat b.toNat with
        | false => rfl
        | true => exact absurd (UInt8.toNat_inj.1 (Nat.eq_of_beq_eq_true hb)) h
      rw [this, cond_false, decide_eq_false fun e => h (by cases e; rfl)]

theorem sEq_ok (a b : ByteArray) : sEq a b = strEq a b := by
  unfold sEq strEq
  rw [lEq_ok, ByteArray.toList_eq, ByteArray.toList_eq]
  by_cases h : a.data.toList = b.data.toList
  · rw [decide_eq_true h, h]; simp
  · rw [decide_eq_false h]; symm; simpa using h

theorem lLt_ok : ∀ {a b : List UInt8}, lLt a b = Op.bytesLess a b
  | [], [] => rfl
  | [], _ :: _ => rfl
  | _ :: _, [] => rfl
  | a :: l, b :: m => by
    unfold lLt Op.bytesLess
    rw [lLt_ok]
    have h1 : Nat.blt a.toNat b.toNat = decide (a < b) := by
      unfold Nat.blt
      by_cases h : a < b
      · rw [decide_eq_true h]; exact Nat.ble_eq_true_of_le (UInt8.lt_iff_toNat_lt.1 h)
      · rw [decide_eq_false h]
        cases hb : Nat.ble (a.toNat + 1) b.toNat with
        | false => rfl
        | true => exact absurd (UInt8.lt_iff_toNat_lt.2 (Nat.le_of_ble_eq_true hb)) h
    have h2 : Nat.beq a.toNat b.toNat = (a == b) := by
      by_cases h : a = b
      · subst h; simp
      · rw [show (a == b) = false by simpa using h]
        cases hb : Nat.beq a.toNat b.toNat with
        | false => rfl
        | true => exact absurd (UInt8.toNat_inj.1 (Nat.eq_of_beq_eq_true hb)) h
    rw [h1, h2]
    cases decide (a < b) <;> cases (a == b) <;> rfl

theorem sLt_ok (a b : ByteArray) : sLt a b = strLt a b := by
  unfold sLt strLt
  rw [lLt_ok, ByteArray.toList_eq, ByteArray.toList_eq]

theorem eqTC_ok (P : Program) : ∀ (d : Nat) (t : TypeId) (x y : Value), eqTC P d t x y = eqT P d t x y
  | 0, _, _, _ => rfl
  | d + 1, t, x, y => by
    have ih : eqTC P d = eqT P d := funext fun t => funext fun x => funext fun y => eqTC_ok P d t x y
    unfold eqTC eqT
    rw [ih]
    simp only [sEq_ok]
    rfl

section
variable {lp : Bool} {w0 w : World} {ρ : Nm} {s : St} {P : Program}

/-- What comes behind an operation that leaves the memory alone. -/
def KP (ρ : Nm) (k : AV → Bool) (φ : Value → Prop) : Prop := ∀ v v', k v = true → VR ρ v v' → φ v'

theorem KK.kp {k : AV → St → Bool} {K : Value → World → Prop} (hK : KK lp w0 ρ s w k K) (hr : Rel w0 ρ s w) : KP ρ (fun v => k v s) fun v => K v w := fun _ _ h hv => hK.pure hr h hv

theorem intC_ok {op : BinOp} {kd : IntKind} {a b : Int} {k : AV → Bool} {φ : Value → Prop} (h : intC op kd a b k = true) (hK : KP ρ k φ) : intBin op kd a b φ := by
  cases op <;> unfold intC at h <;> unfold intBin <;> dsimp only at h ⊢ <;>
    first
    | (exact hK _ _ (fI_ok (k := fun n => k (.int kd n)) h) (.int _ _))
    | (exact hK _ _ (fB_ok (k := fun n => k (.bool n)) h) (.bool _))
    | (cases hb : (b == 0) with
       | true => rw [hb] at h; cases h
       | false =>
         rw [hb, cond_false] at h
         exact ⟨by simpa using hb, hK _ _ (fI_ok (k := fun n => k (.int kd n)) h) (.int _ _)⟩)
    | cases h

theorem strC_ok {op : BinOp} {a b : ByteArray} {k : AV → Bool} {φ : Value → Prop} (h : strC op a b k = true) (hK : KP ρ k φ) : strBin op a b φ := by
  have hap : (⟨⟨a.data.toList ++ b.data.toList⟩⟩ : ByteArray) = a ++ b := by
    apply ByteArray.ext
    simp [ByteArray.data_append]
  cases op <;> unfold strC at h <;> unfold strBin <;> dsimp only at h ⊢ <;> (try rw [sLt_ok] at h) <;> (try rw [sEq_ok] at h) <;>
    first
    | (exact hK _ _ (fB_ok (k := fun n => k (.bool n)) h) (.bool _))
    | (obtain ⟨h1, h2⟩ := cond_ok h
       rw [hap] at h2
       refine ⟨?_, hK _ _ h2 (.str _)⟩
       have := Nat.le_of_ble_eq_true h1
       show ((a.size + b.size : Nat) : Int) ≤ 9223372036854775807
       omega)
    | cases h

theorem eqC_ok {d : TypeDesc} {x y : AV} {x' y' : Value} {b : Bool} {φ : Bool → Prop} (h : eqC d x y = some b) (hx : VR ρ x x') (hy : VR ρ y y') (hp : φ b) : eqDen d x' y' φ := by
  unfold eqC at h
  split at h <;> first | (cases h; cases hx; cases hy; exact hp) | cases h

theorem plainL_ok : ∀ {a : List AV} {v v' : List Value}, plainL a = some v → VsR ρ a v' → v' = v
  | [], _, _, h, g => by cases h; cases g; rfl
  | x :: a, v, v', h, g => by
    unfold plainL at h
    cases g with
    | cons g g' =>
    split at h
    · rename_i y l hy hl
      cases h
      rw [plainL_ok hl g']
      split at hy <;> first | (cases hy; cases g; rfl) | cases hy
    · cases h

theorem plainA_ok {a : AV} {v v' : Value} (h : plainA a = some v) (g : VR ρ a v') : v' = v := by
  unfold plainA at h
  split at h
  · cases h; cases g; rfl
  · cases h; cases g; rfl
  · cases h; cases g; rfl
  · split at h
    · rename_i l hl
      cases h
      cases g with
      | agg g => rw [plainL_ok hl g]
    · cases h
  · cases h

theorem binC_ok {op : BinOp} {t : TypeId} {x y : AV} {x' y' : Value} {k : AV → Bool} {φ : Value → Prop} (h : binC P op t x y k = true) (hx : VR ρ x x') (hy : VR ρ y y') (hK : KP ρ k φ) : binOpDen P op t x' y' φ := by
  unfold binC at h
  split at h
  · rename_i kd a
    cases hx
    split at h
    · rename_i kd' b
      cases hy
      unfold binOpDen binDen
      split at h
      · obtain ⟨h1, h2⟩ := cond_ok h
        exact ⟨of_decide_eq_true h1, hK _ _ (fI_ok (k := fun n => k (.int kd n)) h2) (.int _ _)⟩
      · obtain ⟨h1, h2⟩ := cond_ok h
        exact ⟨of_decide_eq_true h1, hK _ _ (fI_ok (k := fun n => k (.int kd n)) h2) (.int _ _)⟩
      · rename_i n1 n2
        obtain ⟨h1, h2⟩ := cond_ok h
        have := intC_ok h2 hK
        cases op <;> first | exact absurd rfl n1 | exact absurd rfl n2 | (simp only [h1, cond_true]; exact this)
    · cases h
  · cases hx
    split at h
    · cases hy
      have := strC_ok h hK
      unfold binOpDen binDen
      cases op <;> first | exact this | exact this.elim
    · cases h
  · rename_i xs
    cases hx with
    | agg hx =>
    split at h
    · rename_i sg xs' ys h1 h2
      cases hy with
      | agg hy =>
      split at h
      · rename_i ys' h3
        rw [plainL_ok h2 hx, plainL_ok h3 hy]
        unfold binOpDen
        rw [h1]
        dsimp only
        cases hg : P.eqGuardType P.depth t with
        | true => rw [hg] at h; cases h
        | false =>
          rw [hg, cond_false] at h
          rw [cond_false]
          rw [eqTC_ok] at h
          split at h
          · rename_i b hb
            rw [hb]
            exact hK _ _ (fB_ok (k := fun n => k (.bool n)) h) (.bool _)
          · cases h
      · cases h
    · cases h
  · rename_i n1 n2 n3
    split at h
    · rename_i sg d h1 h2
      split at h
      · rename_i b hb
        have hp := hK _ _ (fB_ok (k := fun n => k (.bool n)) h) (.bool _)
        unfold binOpDen
        have key : (match isEqOp op, P.underlying t with
            | some true, some d => eqDen d x' y' fun b => φ (.bool b)
            | some false, some d => eqDen d x' y' fun b => φ (.bool !b)
            | _, _ => False) := by
          rw [h1, h2]
          cases sg with
          | true => exact eqC_ok hb hx hy hp
          | false => exact eqC_ok hb hx hy hp
        cases hx <;> first | exact key | exact absurd rfl (n1 _ _) | exact absurd rfl (n2 _) | exact absurd rfl (n3 _)
      · cases h
    · cases h

theorem unC_ok {op : UnOp} {x : AV} {x' : Value} {k : AV → Bool} {φ : Value → Prop} (h : unC op x k = true) (hx : VR ρ x x') (hK : KP ρ k φ) : unOpDen op x' φ := by
  unfold unC at h
  split at h
  · cases hx; exact hK _ _ (fI_ok (k := fun n => k (.int _ n)) h) (.int _ _)
  · cases hx; exact hK _ _ (fB_ok (k := fun n => k (.bool n)) h) (.bool _)
  · cases hx; exact hK _ _ (fI_ok (k := fun n => k (.int _ n)) h) (.int _ _)
  · cases h

theorem optC_ok {α : Operand → AV} {β : Operand → Value} {x : Option Operand} {d : Int} {k : Int → Bool} {φ : Int → Prop} (h : optC α x d k = true) (hx : ∀ o, x = some o → VR ρ (α o) (β o)) (hK : ∀ n, k n = true → φ n) : optI β x d φ := by
  unfold optC at h
  unfold optI
  cases x with
  | none => exact hK d h
  | some o =>
    have := hx o rfl
    dsimp only at h ⊢
    split at h
    · rename_i kd n hn
      rw [hn] at this
      generalize hb : β o = v at this
      cases this
      exact hK n h
    · cases h

theorem subC_ok {x : AV} {size : Nat} {l h : Int} {a : Option Addr} {n c : Nat} {k : AV → Bool} {φ : Value → Prop} (g : subC x size l h s k = true) (hr : Rel w0 ρ s w) (hx : VR ρ x (.slice a n c)) (hs : 0 < size) (hK : KP ρ k φ) : SubSl ⟨a, n, c⟩ size l h fun s' => φ s'.v := by
  unfold subC at g
  obtain ⟨g1, g⟩ := cond_ok g
  rw [Bool.and_eq_true] at g1
  have h0 := of_decide_eq_true g1.1
  have h1 := of_decide_eq_true g1.2
  cases hx with
  | sl0 =>
    dsimp only at g
    obtain ⟨g2, g⟩ := cond_ok g
    have h2 := of_decide_eq_true g2
    have e1 : l = 0 := by omega
    have e2 : h = 0 := by omega
    subst e1 e2
    exact ⟨h0, h1, by simp, hK _ _ g .sl0⟩
  | @sl i o _ _ y hy =>
    dsimp only at g
    obtain ⟨g2, g⟩ := cond_ok g
    have h2 := of_decide_eq_true g2
    have g := fN_ok g
    have g := fN_ok (k := fun n' => fN (c - l.toNat) fun c' => k (.sl i _ n' c')) g
    have g := fN_ok (k := fun c' => k (.sl i _ _ c')) g
    refine ⟨h0, h1, h2, ?_⟩
    have := hK _ _ g (.sl hy)
    unfold subA
    by_cases hc : c = l.toNat
    · rw [if_pos hc]
      rw [show Nat.beq c l.toNat = true by rw [hc]; exact Nat.beq_refl _, cond_true] at this
      exact this
    · rw [if_neg hc]
      have hb : Nat.beq c l.toNat = false := by
        cases hb : Nat.beq c l.toNat with
        | false => rfl
        | true => exact absurd (Nat.eq_of_beq_eq_true hb) hc
      rw [hb, cond_false] at this
      simp only [Option.map_some, add_mk]
      exact this
  | @slE i y hy o =>
    dsimp only at g
    obtain ⟨g2, g⟩ := cond_ok g
    have h2 := of_decide_eq_true g2
    have e1 : l = 0 := by omega
    have e2 : h = 0 := by omega
    subst e1 e2
    refine ⟨h0, h1, by simp, ?_⟩
    have := hK _ _ g (.slE hy o c)
    unfold subA
    split
    · exact this
    · simpa [Addr.add, SliceV.v] using this
  | @slo i o _ d y hy =>
    dsimp only at g
    split at g
    · rename_i cs z hg
      obtain ⟨g2, g⟩ := cond_ok g
      rw [Bool.and_eq_true, Bool.and_eq_true] at g2
      obtain ⟨g2, g3, g4⟩ := g2
      have g2 := Nat.eq_of_beq_eq_true g2
      have g3 := Nat.eq_of_beq_eq_true g3
      have g4 := Nat.le_of_ble_eq_true g4
      subst g2
      obtain ⟨vs', pad, q1, q2, q3⟩ := hr.row hy hg
      have q3 : y.c * z = vs'.length + pad.length := q3
      have ql := q1.len
      have hfit : ∀ m, o + m * z ≤ cs.length → m ≤ y.c - d := fun m hm => by
        have h7 : (d + m) * z ≤ y.c * z := by rw [Nat.add_mul]; omega
        have := Nat.le_of_mul_le_mul_right h7 hs
        omega
      have hf := hfit _ g4
      refine ⟨h0, h1, (by show h ≤ ((y.c - d : Nat) : Int); omega), ?_⟩
      unfold subA
      cases hl : l.toNat with
      | zero =>
        rw [hl] at g
        have g := fN_ok (k := fun n' => k (.slo i o n' d)) g
        have := hK _ _ g (.slo hy)
        split
        · simpa [SliceV.v] using this
        · simpa [SliceV.v, Addr.add] using this
      | succ m =>
        rw [hl] at g
        dsimp only at g
        cases hb : Nat.blt (o + (m + 1) * z) cs.length with
        | true =>
          rw [hb, cond_true] at g
          have g := fN_ok g
          have g := fN_ok (k := fun n' => fN (d + (m + 1)) fun d' => k (.slo i _ n' d')) g
          have g := fN_ok (k := fun d' => k (.slo i _ _ d')) g
          have := hK _ _ g (.slo hy)
          have hlt : o + (m + 1) * z < cs.length := Nat.le_of_ble_eq_true hb
          have hne : m + 1 < y.c - d := by
            have h7 : (d + (m + 1)) * z < y.c * z := by rw [Nat.add_mul]; omega
            have := Nat.lt_of_mul_lt_mul_right h7
            omega
          rw [if_neg (by simp only; omega)]
          simp only [Option.map_some, add_mk, SliceV.v]
          rw [show y.c - d - (m + 1) = y.c - (d + (m + 1)) by omega]
          exact this
        | false =>
          rw [hb, cond_false] at g
          obtain ⟨g5, g⟩ := cond_ok g
          have g5 := Nat.eq_of_beq_eq_true g5
          rw [g5]
          split
          · exact hK _ _ g (.slE hy _ _)
          · simp only [Option.map_some, add_mk, SliceV.v]
            exact hK _ _ g (.slE hy _ _)
    · cases g

theorem sub3C_ok {x : AV} {size : Nat} {l h m : Int} {a : Option Addr} {n c : Nat} {k : AV → Bool} {φ : Value → Prop} (g : sub3C x size l h m s k = true) (hr : Rel w0 ρ s w) (hx : VR ρ x (.slice a n c)) (hs : 0 < size) (hK : KP ρ k φ) : SubSl3 ⟨a, n, c⟩ size l h m fun s' => φ s'.v := by
  unfold sub3C at g
  obtain ⟨g1, g⟩ := cond_ok g
  rw [Bool.and_eq_true, Bool.and_eq_true] at g1
  have h0 := of_decide_eq_true g1.1
  have h1 := of_decide_eq_true g1.2.1
  have h2 := of_decide_eq_true g1.2.2
  have fin : ∀ (i o : Nat) (y : Loc), ρ i = some y → m ≤ (c : Int) → (fN (cond (Nat.beq m.toNat l.toNat) o (o + l.toNat * size)) fun o' => fN (h.toNat - l.toNat) fun n' => fN (m.toNat - l.toNat) fun c' => k (.sl i o' n' c')) = true →
      SubSl3 ⟨some ⟨y.b, o, none⟩, n, c⟩ size l h m fun s' => φ s'.v := by
    intro i o y hy h3 g
    have g := fN_ok g
    have g := fN_ok (k := fun n' => fN (m.toNat - l.toNat) fun c' => k (.sl i _ n' c')) g
    have g := fN_ok (k := fun c' => k (.sl i _ _ c')) g
    refine ⟨h0, h1, h2, h3, ?_⟩
    have := hK _ _ g (.sl hy)
    unfold subA
    by_cases hc : m.toNat = l.toNat
    · rw [if_pos hc]
      rw [show Nat.beq m.toNat l.toNat = true by rw [hc]; exact Nat.beq_refl _, cond_true] at this
      exact this
    · rw [if_neg hc]
      have hb : Nat.beq m.toNat l.toNat = false := by
        cases hb : Nat.beq m.toNat l.toNat with
        | false => rfl
        | true => exact absurd (Nat.eq_of_beq_eq_true hb) hc
      rw [hb, cond_false] at this
      simp only [Option.map_some, add_mk]
      exact this
  cases hx with
  | sl0 =>
    dsimp only at g
    obtain ⟨g2, g⟩ := cond_ok g
    have h3 := of_decide_eq_true g2
    have e1 : l = 0 := by omega
    have e2 : h = 0 := by omega
    have e3 : m = 0 := by omega
    subst e1 e2 e3
    exact ⟨h0, h1, h2, by simp, hK _ _ g .sl0⟩
  | @sl i o _ _ y hy =>
    dsimp only at g
    obtain ⟨g2, g⟩ := cond_ok g
    exact fin i o y hy (of_decide_eq_true g2) g
  | @slo i o _ d y hy =>
    dsimp only at g
    split at g
    · rename_i cs z hg
      obtain ⟨g2, g⟩ := cond_ok g
      rw [Bool.and_eq_true, Bool.and_eq_true] at g2
      obtain ⟨g2, g3, g4⟩ := g2
      have g2 := Nat.eq_of_beq_eq_true g2
      have g3 := Nat.eq_of_beq_eq_true g3
      have g4 := Nat.le_of_ble_eq_true g4
      subst g2
      obtain ⟨vs', pad, q1, q2, q3⟩ := hr.row hy hg
      have q3 : y.c * z = vs'.length + pad.length := q3
      have ql := q1.len
      refine fin i o y hy ?_ g
      have h7 : (d + m.toNat) * z ≤ y.c * z := by rw [Nat.add_mul]; omega
      have := Nat.le_of_mul_le_mul_right h7 hs
      omega
    · cases g
  | slE hy => cases g

theorem sliceC_ok {t : TypeId} {x : AV} {x' : Value} {α : Operand → AV} {β : Operand → Value} {lo hi mx : Option Operand} {k : AV → Bool} {φ : Value → Prop} (h : sliceC P t x α lo hi mx s k = true) (hr : Rel w0 ρ s w) (hx : VR ρ x x')
    (h1 : ∀ o, lo = some o → VR ρ (α o) (β o)) (h2 : ∀ o, hi = some o → VR ρ (α o) (β o)) (h3 : ∀ o, mx = some o → VR ρ (α o) (β o)) (hK : KP ρ k φ) : sliceDen P t x' β lo hi mx φ := by
  unfold sliceC at h
  unfold sliceDen
  split at h
  · rename_i ht
    rw [ht]
    split at h
    · rename_i b
      cases hx
      refine optC_ok h h1 fun l hl => optC_ok hl h2 fun hh hhh => ?_
      obtain ⟨g, hk⟩ := cond_ok hhh
      rw [Bool.and_eq_true, Bool.and_eq_true] at g
      refine ⟨of_decide_eq_true g.1, of_decide_eq_true g.2.1, of_decide_eq_true g.2.2, ?_⟩
      have := hK _ _ hk (.str _)
      have e : (⟨⟨(b.data.toList.take hh.toNat).drop l.toNat⟩⟩ : ByteArray) = b.extract l.toNat hh.toNat := by
        apply ByteArray.ext
        apply Array.ext'
        simp [ByteArray.data_extract, List.drop_take]
      rw [e] at this
      exact this
    · cases h
  · rename_i e ht
    rw [ht]
    split at h
    · rename_i size n hs hn
      obtain ⟨a, c, rfl⟩ := slLen_ok hn hx
      dsimp only
      rw [hs]
      obtain ⟨hs0, h⟩ := cond_ok h
      have hs0 : 0 < size := Nat.le_of_ble_eq_true hs0
      cases mx with
      | none => exact optC_ok h h1 fun l hl => optC_ok hl h2 fun hh hhh => subC_ok hhh hr hx hs0 hK
      | some m =>
        dsimp only at h ⊢
        cases hi with
        | none => cases h
        | some hi => exact optC_ok h h1 fun l hl => optC_ok hl h2 fun hh hhh => optC_ok hhh (fun o ho => h3 o ho) fun m hm => sub3C_ok hm hr hx hs0 hK
    · cases h
  · rename_i n e ht
    rw [ht]
    split at h
    · rename_i i o size hs
      cases hx with
      | @ptr _ _ y hy =>
      dsimp only
      rw [hs]
      refine optC_ok h h1 fun l hl => optC_ok hl h2 fun hh hhh => ?_
      obtain ⟨g, hk⟩ := cond_ok hhh
      rw [Bool.and_eq_true, Bool.and_eq_true] at g
      have hk := fN_ok hk
      have hk := fN_ok (k := fun n' => fN (n - l.toNat) fun c' => k (.sl i _ n' c')) hk
      have hk := fN_ok (k := fun c' => k (.sl i _ _ c')) hk
      have := hK _ _ hk (.sl hy)
      refine ⟨of_decide_eq_true g.1, of_decide_eq_true g.2.1, of_decide_eq_true g.2.2, ?_⟩
      by_cases hc : n = l.toNat
      · rw [if_pos hc]
        rw [show Nat.beq n l.toNat = true by rw [hc]; exact Nat.beq_refl _, cond_true] at this
        exact this
      · rw [if_neg hc]
        have hb : Nat.beq n l.toNat = false := by
          cases hb : Nat.beq n l.toNat with
          | false => rfl
          | true => exact absurd (Nat.eq_of_beq_eq_true hb) hc
        rw [hb, cond_false] at this
        rw [add_mk]
        exact this
    · cases h
  · cases h
end
end Gp.Rn
