import Derived.Test.YtmcdmhegjhcjhaaGreatRn7
import Derived.Test.YtmcdmhegjhcjhaaGreatRngM
/- A machine that runs closed code over named blocks: operations that touch memory. -/
namespace Gp.Rn
open Go Gp

section
variable {lp : Bool} {w0 w : World} {ρ : Nm} {s : St} {P : Program} {k : AV → St → Bool} {K : Value → World → Prop}

theorem pickC_ok {c a b : AV} {c' a' b' : Value} (h : pickC c a b s k = true) (hr : Rel w0 ρ s w) (hc : VR ρ c c') (ha : VR ρ a a') (hb : VR ρ b b') (hK : KK lp w0 ρ s w k K) :
    (match (generalizing := false) c' with
    | .bool t => cond t (K a' w) (K b' w)
    | _ => False) := by
  unfold pickC at h
  split at h
  · rename_i t
    cases hc
    cases t with
    | true => exact hK.pure hr h ha
    | false => exact hK.pure hr h hb
  · cases h

theorem zerosA_ok {e : TypeId} {z : List AV} (h : zerosA P e = some z) : ∃ zs, zeroCells? P e = some zs ∧ VsR ρ z zs := by
  unfold zerosA at h
  split at h
  · rename_i zs hz
    exact ⟨zs, hz, leavesA_ok h⟩
  · cases h

theorem allocC_ok {e : TypeId} (h : allocC P e s k = true) (hr : Rel w0 ρ s w) (hK : KK lp w0 ρ s w k K) :
    (match (generalizing := false) zeroCells? P e with
    | some z => K (nextP w) (w.alloc (.cells ⟨z⟩ e))
    | none => False) := by
  unfold allocC at h
  split at h
  · rename_i z hz
    obtain ⟨zs, h1, h2⟩ := zerosA_ok (ρ := ρ) hz
    obtain ⟨i, s', h, q0, q1, q2⟩ := newB_ok h
    obtain ⟨r1, r2, r3⟩ := hr.newRow0 h2 q0 q1 q2 e
    rw [h1]
    exact hK.of h r2 r1 (VR.ptr (upd_self ρ i _)) r3
  · cases h

theorem boxC_ok {e : TypeId} {x : AV} {x' : Value} (h : boxC P e x s k = true) (hr : Rel w0 ρ s w) (hx : VR ρ x x') (hK : KK lp w0 ρ s w k K) :
    (match (generalizing := false) shapeOf P e with
    | some (.one _) => isOne x' = true ∧ K (nextP w) (w.alloc (.cells ⟨[x']⟩ e))
    | some (.agg _) => match (generalizing := false) x' with
      | .agg cs => K (nextP w) (w.alloc (.cells cs e))
      | _ => False
    | none => False) := by
  unfold boxC at h
  split at h
  · rename_i kd hs
    obtain ⟨h1, h⟩ := cond_ok h
    obtain ⟨i, s', h, q0, q1, q2⟩ := newB_ok h
    obtain ⟨r1, r2, r3⟩ := hr.newRow0 (.cons hx .nil) q0 q1 q2 e
    rw [hs]
    exact ⟨one_ok hx h1, hK.of h r2 r1 (VR.ptr (upd_self ρ i _)) r3⟩
  · rename_i ks hs
    rw [hs]
    split at h
    · cases hx with
      | agg hx =>
      obtain ⟨i, s', h, q0, q1, q2⟩ := newB_ok h
      obtain ⟨r1, r2, r3⟩ := hr.newRow0 hx q0 q1 q2 e
      exact hK.of h r2 r1 (VR.ptr (upd_self ρ i _)) r3
    · cases h
  · cases h

/-! ### Building -/
theorem cellsA_ok {a : AV} {v : Value} (h : VR ρ a v) : VsR ρ (cellsA a) (cellsOfV v) := by
  cases h <;> first | assumption | (refine .cons ?_ .nil; constructor <;> assumption)

inductive PsR (ρ : Nm) : List (Nat × AV) → List (Nat × Value) → Prop
  | nil : PsR ρ [] []
  | cons {i a v l m} (h : VR ρ a v) (h' : PsR ρ l m) : PsR ρ ((i, a) :: l) ((i, v) :: m)

theorem PsR.of {l : List (Nat × Operand)} {α : Operand → AV} {β : Operand → Value} (h : ∀ x ∈ l, VR ρ (α x.2) (β x.2)) : PsR ρ (l.map fun p => (p.1, α p.2)) (l.map fun p => (p.1, β p.2)) := by
  induction l with
  | nil => exact .nil
  | cons x l ih => exact .cons (h x (List.mem_cons_self ..)) (ih fun y hy => h y (List.mem_cons_of_mem _ hy))

theorem fillA_ok {place : Nat → Option (Nat × Nat)} : ∀ {l : List (Nat × AV)} {m : List (Nat × Value)} {cs : List AV} {us : List Value} {r : List AV}, PsR ρ l m → VsR ρ cs us → fillA place l cs = some r → ∃ r', fillL place m us = some r' ∧ VsR ρ r r'
  | [], _, cs, us, r, h, hc, g => by
    cases h
    cases g
    exact ⟨us, rfl, hc⟩
  | (i, a) :: l, _, cs, us, r, h, hc, g => by
    cases h with
    | cons h h' =>
    rename_i v m
    unfold fillA at g
    unfold fillL
    split at g
    · rename_i off size hp
      rw [hp]
      dsimp only
      have hce := cellsA_ok h
      have hl := hce.len
      have hcl := hc.len
      rw [hl, hcl] at g
      cases hb : (Nat.beq (cellsOfV v).length size && Nat.ble (off + size) us.length) with
      | false => rw [hb] at g; cases g
      | true =>
        rw [hb, cond_true] at g
        refine fillA_ok h' ?_ g
        unfold spliceA splice
        rw [hl]
        exact (hc.take _).app (hce.app (hc.drop _))
    · cases g

theorem fillOA_ok : ∀ {l : List (Nat × AV)} {m : List (Nat × Value)} {cs : List AV} {us : List Value} {r : List AV}, PsR ρ l m → VsR ρ cs us → fillOA l cs = some r → ∃ r', fillO m us = some r' ∧ VsR ρ r r'
  | [], _, cs, us, r, h, hc, g => by
    cases h
    cases g
    exact ⟨us, rfl, hc⟩
  | (i, a) :: l, _, cs, us, r, h, hc, g => by
    cases h with
    | cons h h' =>
    unfold fillOA at g
    unfold fillO
    rw [hc.len] at g
    cases hb : Nat.blt i us.length with
    | false => rw [hb] at g; cases g
    | true =>
      rw [hb, cond_true] at g
      rw [cond_true]
      exact fillOA_ok h' (hc.set i h) g

theorem allOne_snd : ∀ {l : List (Nat × AV)} {m : List (Nat × Value)}, PsR ρ l m → allOneA (l.map fun p => p.2) = true → allOne (m.map fun p => p.2)
  | [], _, h, _ => by cases h; trivial
  | _ :: _, _, h, g => by
    cases h with
    | cons h h' =>
    rw [List.map_cons] at g
    unfold allOneA at g
    rw [Bool.and_eq_true] at g
    exact ⟨one_ok h g.1, allOne_snd h' g.2⟩

theorem buildC_ok {t : TypeId} {ps : List (Nat × AV)} {qs : List (Nat × Value)} {k : AV → Bool} {φ : Value → Prop} (h : buildC P t ps k = true) (hp : PsR ρ ps qs) (hK : KP ρ k φ) :
    (match (generalizing := false) zeroCells? P t, P.underlying t with
    | some z, some (.struct fs) => match (generalizing := false) placesOf P fs.toList with
      | some pl => match (generalizing := false) fillL (fun i => pl[i]?) qs z with
        | some cs => φ (.agg ⟨cs⟩)
        | none => False
      | none => False
    | some z, some (.array _ e) => match (generalizing := false) sizeOf? P e with
      | some size => match (generalizing := false) fillL (fun i => some (i * size, size)) qs z with
        | some cs => φ (.agg ⟨cs⟩)
        | none => False
      | none => False
    | _, _ => False) := by
  unfold buildC at h
  split at h
  · rename_i z fs hz ht
    obtain ⟨zs, h1, h2⟩ := zerosA_ok (ρ := ρ) hz
    rw [h1, ht]
    dsimp only
    split at h
    · rename_i pl hpl
      rw [hpl]
      split at h
      · rename_i cs hf
        obtain ⟨r', g1, g2⟩ := fillA_ok hp h2 hf
        dsimp only
        rw [g1]
        exact hK _ _ h (.agg g2)
      · cases h
    · cases h
  · rename_i z n e hz ht
    obtain ⟨zs, h1, h2⟩ := zerosA_ok (ρ := ρ) hz
    rw [h1, ht]
    dsimp only
    split at h
    · rename_i size hs
      rw [hs]
      split at h
      · rename_i cs hf
        obtain ⟨r', g1, g2⟩ := fillA_ok hp h2 hf
        dsimp only
        rw [g1]
        exact hK _ _ h (.agg g2)
      · cases h
    · cases h
  · cases h

theorem buildSC_ok {t : TypeId} {n : Nat} {ps : List (Nat × AV)} {qs : List (Nat × Value)} (h : buildSC P t n ps s k = true) (hr : Rel w0 ρ s w) (hp : PsR ρ ps qs) (hK : KK lp w0 ρ s w k K) :
    (match (generalizing := false) P.underlying t with
    | some (.slice e) => match (generalizing := false) sizeOf? P e, zeroCells? P e with
      | some size, some z => cond (Nat.ble (n * size) 4096 && Nat.beq z.length size)
        (cond (anySh (shapeOf P e)) (cond (Nat.beq size 1) (allOne (qs.map fun p => p.2) ∧ (match (generalizing := false) fillO qs (repCells z n) with
         | some cs => K (.slice (some ⟨w.heap.size, 0, none⟩) n n) (w.alloc (.cells ⟨cs⟩ e))
         | none => False)) False)
         (match (generalizing := false) fillL (fun i => some (i * size, size)) qs (repCells z n) with
         | some cs => K (.slice (some ⟨w.heap.size, 0, none⟩) n n) (w.alloc (.cells ⟨cs⟩ e))
         | none => False)) False
      | _, _ => False
    | _ => False) := by
  unfold buildSC at h
  split at h
  · rename_i e ht
    rw [ht]
    dsimp only
    split at h
    · rename_i size z hs hz
      obtain ⟨zs, h1, h2⟩ := zerosA_ok (ρ := ρ) hz
      rw [hs, h1]
      dsimp only
      obtain ⟨g, h⟩ := cond_ok h
      rw [h2.len] at g
      rw [g, cond_true]
      cases hsh : anySh (shapeOf P e) with
      | true =>
        rw [hsh, cond_true] at h
        rw [cond_true]
        obtain ⟨g1, h⟩ := cond_ok h
        rw [Bool.and_eq_true] at g1
        rw [g1.1, cond_true]
        refine ⟨allOne_snd hp g1.2, ?_⟩
        split at h
        · rename_i cs hf
          obtain ⟨r', q1, q2⟩ := fillOA_ok hp (h2.rep n) hf
          rw [q1]
          obtain ⟨i, s', h, p0, p1, p2⟩ := newB_ok h
          obtain ⟨r1, r2, r3⟩ := hr.newRow0 q2 p0 p1 p2 e
          exact hK.of h r2 r1 (VR.sl (upd_self ρ i _)) r3
        · cases h
      | false =>
        rw [hsh, cond_false] at h
        rw [cond_false]
        split at h
        · rename_i cs hf
          obtain ⟨r', q1, q2⟩ := fillA_ok hp (h2.rep n) hf
          rw [q1]
          obtain ⟨i, s', h, p0, p1, p2⟩ := newB_ok h
          obtain ⟨r1, r2, r3⟩ := hr.newRow0 q2 p0 p1 p2 e
          exact hK.of h r2 r1 (VR.sl (upd_self ρ i _)) r3
        · cases h
    · cases h
  · cases h

/-! ### Bytes -/
theorem u8s_ok : ∀ {cs : List AV} {us : List Value} {l : List UInt8}, VsR ρ cs us → u8s cs = some l → us = l.map fun b => Value.int .u8 b.toNat
  | [], _, _, h, g => by cases h; cases g; rfl
  | c :: cs, _, l, h, g => by
    cases h with
    | cons h h' =>
    unfold u8s at g
    split at g
    · rename_i he
      cases he
    · rename_i n r he
      cases he
      cases hb : Nat.blt n 256 with
      | false => rw [hb] at g; cases g
      | true =>
        rw [hb, cond_true] at g
        split at g
        · rename_i m hm
          cases g
          rw [u8s_ok h' hm, List.map_cons]
          cases h
          have : n < 256 := Nat.le_of_ble_eq_true hb
          congr 2
          show (n : Int) = ((UInt8.ofNat n).toNat : Int)
          rw [UInt8.toNat_ofNat']
          omega
        · cases g
    · cases g

theorem byA_ok (l : List UInt8) : VsR ρ (byA l) (l.map fun b => Value.int .u8 b.toNat) := by
  unfold byA
  exact VsR.map fun b _ => VR.int .u8 _

theorem byteCells_eq (b : ByteArray) : byteCells b = b.data.toList.map fun b => Value.int .u8 b.toNat := rfl

theorem convC_ok {sd d : TypeId} {x : AV} {x' : Value} (h : convC P sd d x s k = true) (hr : Rel w0 ρ s w) (hx : VR ρ x x') (hK : KK lp w0 ρ s w k K) :
    (match (generalizing := false) P.underlying sd, P.underlying d, x' with
    | some (.slice e), some .string, .slice a n c => match (generalizing := false) P.underlying e with
      | some (.int .u8) => BytesStr w ⟨a, n, c⟩ fun b => K (.string b) w
      | _ => False
    | some .string, some (.slice e), .string b => match (generalizing := false) P.underlying e with
      | some (.int .u8) => StrBytes e b w fun s' w' => K s'.v w'
      | _ => False
    | some (.slice _), some (.slice e), .slice (some a) n c => match (generalizing := false) P.underlying e, Nat.beq sd d with
      | some (.int .u8), true => MarkSl a w fun w' => K (.slice (some a) n c) w'
      | _, _ => False
    | _, _, v => convDen P sd d v fun v => K v w) := by
  unfold convC at h
  split at h
  · rename_i e h1 h2
    split at h
    · rename_i n h3 h4
      obtain ⟨a, c, rfl⟩ := slLen_ok h4 hx
      split at h
      · rename_i cs hcs
        split at h
        · rename_i l hl
          obtain ⟨us, g1, g2, g3, _⟩ := slC_ok hr hcs hx
          have := u8s_ok g1 hl
          subst this
          rw [h1, h2]
          dsimp only
          rw [h3]
          dsimp only
          rw [List.length_map] at g3
          refine ⟨⟨⟨l⟩⟩, by show l.length = n; omega, ?_, hK.pure hr h (.str _)⟩
          rw [byteCells_eq]
          rwa [Nat.mul_one] at g2
        · cases h
      · cases h
    · cases h
  · rename_i e h1 h2
    split at h
    · rename_i b h3
      cases hx
      obtain ⟨g, h⟩ := cond_ok h
      obtain ⟨i, s', h, q0, q1, q2⟩ := newB_ok h
      rw [h1, h2]
      dsimp only
      rw [h3]
      refine ⟨Nat.le_of_ble_eq_true g, fun c hc1 hc2 => ?_⟩
      have hbl : (b.data.toList.map fun b => Value.int .u8 b.toNat).length = b.size := by rw [List.length_map]; rfl
      obtain ⟨r1, r2, r3⟩ := hr.drew.newRow (byA_ok b.data.toList) q0 q1 q2 (repCells [.int .u8 0] (c - b.size)) e (c, c + 1) (.inl (by
        rw [List.length_append, hbl, repCells_len']; simp; omega)) c (by
        show c * 1 = _
        rw [hbl, repCells_len']; simp; omega)
      refine hK.of h r2 r1 ?_ (Lp.drew r3)
      have := VR.slo (ρ := upd ρ i ⟨w.drew.heap.size, c, fun _ _ _ => False⟩) (o := 0) (n := b.size) (d := 0) (upd_self ρ i ⟨w.drew.heap.size, c, fun _ _ _ => False⟩)
      simpa [SliceV.v] using this
    · cases h
  · rename_i e0 e h1 h2
    split at h
    · rename_i i o n c h3 h4
      split at h
      · rename_i cs z p hg
        cases hx with
        | @sl _ _ _ _ y hy =>
        rw [h1, h2]
        dsimp only
        rw [h3, h4]
        dsimp only
        obtain ⟨vs, pad, g1, ⟨T, fr, g2, g3⟩, g4⟩ := hr.row hy hg
        refine ⟨T, (vs ++ pad).length, by simp [World.shape?, g2], ?_⟩
        have hf : Fr8 w (w.freeze ⟨y.b, (vs ++ pad).length, none⟩ 1) (· = y.b) := by
          refine ⟨by simp [World.freeze], fun b hb hn => ?_, rfl, rfl, rfl⟩
          have : ¬ (y.b = b) := fun e => hn e.symm
          simp [World.freeze, Array.getElem?_modify, this]
        have hrow : RowF (w.freeze ⟨y.b, (vs ++ pad).length, none⟩ 1) y.b (vs ++ pad) := by
          obtain ⟨lo, hi⟩ := fr
          refine ⟨T, if lo == hi then ((vs ++ pad).length, (vs ++ pad).length + 1) else (min lo (vs ++ pad).length, max hi ((vs ++ pad).length + 1)), ?_, ?_⟩
          · simp [World.freeze, Array.getElem?_modify, g2]
          · right
            rcases g3 with g3 | g3
            · cases g3
              simp
            · simp only at g3
              split
              · simp
              · simp only [Nat.le_min]
                exact ⟨g3, Nat.le_refl _⟩
        exact hK.of h (Le.refl ρ) (hr.chg hy hg trivial hg (fun _ _ => rfl) hf ⟨vs, pad, g1, hrow, g4⟩) (.sl hy) (hr.chgL hy hg trivial trivial (fun _ _ => rfl) hf)
      · cases h
    · cases h
  · rename_i du kd n4 n5
    split at h
    · cases hx
      have hp := hK.pure hr (fI_ok (k := fun n => k (.int _ n) s) h) (.int _ _)
      have e : ∀ q m, K (.int kd (kd.wrap m)) w → convDen P sd d (.int q m) (fun v => K v w) := by
        intro q m hp
        unfold convDen
        rw [n4, n5]
        exact hp
      rw [n4, n5]
      cases du <;> exact e _ _ hp
    · cases h
  · rename_i du n1 n4 n5
    split at h
    · cases hx
      have hp := hK.pure hr h (.str _)
      have e : ∀ m, K (.string m) w → convDen P sd d (.string m) (fun v => K v w) := by
        intro m hp
        unfold convDen
        rw [n4, n5]
        exact hp
      rw [n4, n5]
      cases du <;> first | exact e _ hp | exact (n1 _ rfl).elim
    · cases h
  · cases h
end
end Gp.Rn
