import Derived.Test.YtmcdmhegjhcjhaaGreatRn9
/- A machine that runs closed code over named blocks: one operation. -/
namespace Gp.Rn
open Go Gp

section
variable {lp : Bool} {w0 w : World} {ρ : Nm} {s : St} {P : Program} {k : AV → St → Bool} {K : Value → World → Prop}

theorem rgC_ok {t : TypeId} {x : AV} {x' : Value} (h : rgC P t x s k = true) (hr : Rel w0 ρ s w) (hx : VR ρ x x') (hK : KK lp w0 ρ s w k K) :
    (match (generalizing := false) P.underlying t, x' with
    | some (.map _ _), .map r => RngMap r w fun a w' => K (.pointer (some a)) w'
    | _, _ => False) := by
  unfold rgC at h
  split at h
  · rename_i kt et ht
    cases hx
    obtain ⟨i, s', h, q0, q1, q2⟩ := newB_ok h
    obtain ⟨r1, r2, r3⟩ := hr.alloc (x := ⟨w.heap.size, 0, fun _ _ _ => False⟩) (o := .mapIter none 0 #[] 0) q0 q1 q2 rfl fun ρ' _ _ => ⟨_, _, _, World.alloc_heap_new w _⟩
    rw [ht]
    exact .inl ⟨rfl, hK.of h r2 r1 (VR.ptr (upd_self ρ i _)) r3⟩
  · rename_i kt et m ht
    split at h
    · rename_i es c hg
      cases hx with
      | @map _ y hy =>
      obtain ⟨es', g1, g2⟩ := hr.br m _ y hg hy
      obtain ⟨i, s', h, q0, q1, q2⟩ := newB_ok h
      obtain ⟨r1, r2, r3⟩ := hr.alloc (x := ⟨w.heap.size, 0, fun _ _ _ => False⟩) (o := .mapIter (some y.b) c #[] c) q0 q1 q2 rfl fun ρ' hl _ => ⟨y, hl _ _ hy, World.alloc_heap_new w _, Nat.le_refl _⟩
      rw [ht]
      exact .inr ⟨y.b, ⟨es'⟩, c, rfl, g1, hK.of h r2 r1 (VR.ptr (upd_self ρ i _)) r3⟩
    · cases h
  · cases h

theorem inN_ok (b : Nat) : ∀ l : List Nat, inN b l = (⟨l⟩ : Array Nat).contains b
  | [] => by simp [inN]
  | x :: r => by
    unfold inN
    rw [inN_ok b r]
    simp only [List.contains_toArray, List.contains_cons]
    by_cases h : x = b
    · subst h; rw [show Nat.beq x x = true from Nat.beq_refl _]; simp
    · have h1 : Nat.beq x b = false := by
        cases hb : Nat.beq x b with
        | false => rfl
        | true => exact absurd (Nat.eq_of_beq_eq_true hb) h
      have h2 : (b == x) = false := by simpa using fun e => h e.symm
      rw [h1, h2]; simp

theorem leftC_ok {since : Nat} {seen : List Nat} {es : List (AV × AV × Nat)} {es' : List MapEntry} (h : EsR ρ es es') : EsR ρ (leftC since seen es) (leftOf ⟨es'⟩ ⟨seen⟩).toList := by
  have e : (leftOf ⟨es'⟩ ⟨seen⟩).toList = es'.filter fun e => !(⟨seen⟩ : Array Nat).contains e.born := by
    unfold leftOf
    rw [Array.toList_filter]
  rw [e]
  induction h with
  | nil => exact .nil
  | cons h1 h2 h3 hr0 ih =>
    rename_i a v n m es es'
    have ih := ih (by unfold leftOf; rw [Array.toList_filter])
    unfold leftC
    dsimp only
    rw [inN_ok, ← h3]
    cases hb : (⟨seen⟩ : Array Nat).contains m.born with
    | true => rw [cond_true, List.filter_cons_of_neg (by rw [hb]; simp)]; exact ih
    | false => rw [cond_false, List.filter_cons_of_pos (by rw [hb]; rfl)]; exact .cons h1 h2 rfl ih

theorem allBelow_ok {n : Nat} {es : List (AV × AV × Nat)} {es' : List MapEntry} (h : EsR ρ es es') (g : allBelow n es = true) : ∀ x ∈ es', x.born < n := by
  induction h with
  | nil => simp
  | cons h1 h2 h3 _ ih =>
    unfold allBelow at g
    rw [Bool.and_eq_true] at g
    intro x hx
    rcases List.mem_cons.1 hx with rfl | hx
    · rw [h3]; exact Nat.le_of_ble_eq_true g.1
    · exact ih g.2 x hx

theorem nextC_ok {x : AV} {x' : Value} (h : nextC x s k = true) (hr : Rel w0 ρ s w) (hx : VR ρ x x') (hK : KK lp w0 ρ s w k K) :
    (match (generalizing := false) x' with
    | .pointer (some a) => a = ⟨a.block, 0, none⟩ ∧ NextM a.block w (K (.tuple ⟨[.bool false]⟩)) fun k v w' => K (.tuple ⟨[.bool true, k, v]⟩) w'
    | _ => False) := by
  unfold nextC at h
  split at h
  · rename_i i
    cases hx with
    | @ptr _ _ y hy =>
    refine ⟨rfl, ?_⟩
    split at h
    · rename_i hg
      obtain ⟨a, b, c, g⟩ := hr.br i _ y hg hy
      exact .inl ⟨_, _, _, g, hK.pure hr h (.tup (.cons (.bool false) .nil))⟩
    · rename_i m since seen c0 hg
      obtain ⟨z, g1, g2, g3⟩ := hr.br i _ y hg hy
      split at h
      · rename_i es c hgm
        obtain ⟨es', m1, m2⟩ := hr.br m _ z hgm g1
        obtain ⟨hab, h⟩ := cond_ok h
        rw [Bool.and_eq_true] at hab
        have hl := leftC_ok (since := since) (seen := seen) m2
        refine .inr ⟨z.b, since, ⟨seen⟩, c0, ⟨es'⟩, c, g2, m1, allBelow_ok m2 hab.1, g3, ?_, ?_⟩
        · intro hz
          split at h
          · exact hK.pure hr h (.tup (.cons (.bool false) .nil))
          · rename_i he
            rw [he] at hl
            have := hl.len
            have hz' : (leftOf ⟨es'⟩ ⟨seen⟩).toList.length = 0 := by rw [Array.length_toList]; exact hz
            rw [hz'] at this
            simp at this
          · cases h
        · intro e he w1 hw1
          split at h
          · rename_i hn
            rw [hn] at hl
            generalize (leftOf ⟨es'⟩ ⟨seen⟩).toList = L at hl he
            cases hl
            simp at he
          · rename_i a b n hn
            rw [hn] at hl
            generalize (leftOf ⟨es'⟩ ⟨seen⟩).toList = L at hl he
            cases hl with
            | cons q1 q2 q3 q4 =>
            cases q4
            rw [List.mem_singleton.1 he]
            obtain ⟨s', h, p1, p2⟩ := putB_ok h
            have hr1 : Rel w0 ρ s w1 := by rcases hw1 with rfl | rfl; exact hr; exact hr.drew
            have hp : (⟨seen⟩ : Array Nat).push n = ⟨seen ++ [n]⟩ := by apply Array.ext'; simp
            rw [q3, hp]
            obtain ⟨r1, l1⟩ := putObj_map (o := .mapIter (some z.b) since ⟨seen ++ [n]⟩ c) hr1 hy hg trivial trivial p1 p2 fun w' hw' => ⟨z, g1, hw', Nat.le_of_ble_eq_true hab.2⟩
            refine hK.of h (Le.refl ρ) r1 (.tup (.cons (.bool true) (.cons q1 (.cons q2 .nil)))) ?_
            rcases hw1 with rfl | rfl
            · exact l1
            · exact l1
          · cases h
      · cases h
    · cases h
  · cases h

theorem bornIs_ok {n : Nat} {es : List (AV × AV × Nat)} {es' : List MapEntry} (h : EsR ρ es es') : (bornIs n es = none → ∀ x ∈ es', x.born ≠ n) ∧ ∀ a b, bornIs n es = some (a, b) → ∃ e ∈ es', e.born = n ∧ VR ρ a e.key ∧ VR ρ b e.val := by
  induction h with
  | nil => exact ⟨fun _ => by simp, fun a b h => by cases h⟩
  | cons h1 h2 h3 hr0 ih =>
    rename_i a v m e es es'
    unfold bornIs
    dsimp only
    by_cases hm : m = n
    · rw [show Nat.beq m n = true by rw [hm]; exact Nat.beq_refl _, cond_true]
      refine ⟨fun h => (by cases h), fun a b h => ?_⟩
      cases h
      exact ⟨e, List.mem_cons_self .., by rw [h3, hm], h1, h2⟩
    · have hb : Nat.beq m n = false := by
        cases hb : Nat.beq m n with
        | false => rfl
        | true => exact absurd (Nat.eq_of_beq_eq_true hb) hm
      rw [hb, cond_false]
      refine ⟨fun h x hx => ?_, fun a b h => ?_⟩
      · rcases List.mem_cons.1 hx with rfl | hx
        · rw [h3]; exact hm
        · exact ih.1 h x hx
      · obtain ⟨e', g1, g2⟩ := ih.2 a b h
        exact ⟨e', List.mem_cons_of_mem _ g1, g2⟩

theorem noDupB_ok {es : List (AV × AV × Nat)} {es' : List MapEntry} (h : EsR ρ es es') (g : noDupB es = true) : (es'.map (·.born)).Nodup := by
  induction h with
  | nil => exact List.nodup_nil
  | cons h1 h2 h3 hr ih =>
    unfold noDupB at g
    rw [Bool.and_eq_true] at g
    rw [List.map_cons, List.nodup_cons]
    refine ⟨fun hm => ?_, ih g.2⟩
    obtain ⟨x, hx, he⟩ := List.mem_map.1 hm
    have g1 := g.1
    dsimp only at g1
    split at g1
    · rename_i hn
      exact (bornIs_ok hr).1 hn x hx (he.trans h3)
    · cases g1

theorem lastN_ok : ∀ {l : List Nat} {n : Nat}, lastN l = some n → ∃ r, l = r ++ [n]
  | [], _, h => by cases h
  | [x], _, h => by cases h; exact ⟨[], rfl⟩
  | x :: y :: r, n, h => by
    obtain ⟨q, hq⟩ := lastN_ok (l := y :: r) h
    exact ⟨x :: q, by rw [hq]; rfl⟩

theorem entryC_ok {x : AV} {x' : Value} {k : AV → Bool} {φ : Value → Prop} (h : entryC x s k = true) (hr : Rel w0 ρ s w) (hx : VR ρ x x') (hK : KP ρ k φ) :
    (match (generalizing := false) x' with
    | .pointer (some a) => a = ⟨a.block, 0, none⟩ ∧ EntryM a.block w fun k v => φ (.tuple ⟨[k, v]⟩)
    | _ => False) := by
  unfold entryC at h
  split at h
  · rename_i i
    cases hx with
    | @ptr _ _ y hy =>
    refine ⟨rfl, ?_⟩
    split at h
    · rename_i m since seen c hg
      obtain ⟨z, g1, g2, g3⟩ := hr.br i _ y hg hy
      split at h
      · rename_i es c' n hgm hl
        obtain ⟨es', m1, m2⟩ := hr.br m _ z hgm g1
        obtain ⟨hnd, hq⟩ := cond_ok h
        clear h
        rw [Bool.and_eq_true] at hnd
        have hc := Nat.eq_of_beq_eq_true hnd.2
        subst hc
        split at hq
        · rename_i a b hb
          obtain ⟨e, e1, e2, e3, e4⟩ := (bornIs_ok m2).2 a b hb
          obtain ⟨r, rfl⟩ := lastN_ok hl
          refine ⟨z.b, since, ⟨r⟩, ⟨es'⟩, c, e, ?_, m1, e1, noDupB_ok m2 hnd.1, hK _ _ hq (.tup (.cons e3 (.cons e4 .nil)))⟩
          have hp : (⟨r⟩ : Array Nat).push e.born = ⟨r ++ [n]⟩ := by apply Array.ext'; simp [e2]
          rw [hp]
          exact g2
        · cases hq
      · cases h
    · cases h
  · cases h

/-! ### Addresses -/
theorem faC_ok {t : TypeId} {x : AV} {x' : Value} {f : Nat} {k : AV → Bool} {φ : Value → Prop} (h : faC P t x f k = true) (hx : VR ρ x x') (hK : KP ρ k φ) :
    (match (generalizing := false) P.underlying t, x' with
    | some (.struct fs), .pointer (some a) => match (generalizing := false) fieldPlace? P fs f with
      | some (off, size) => cond (Nat.beq size 0) False (φ (.pointer (some (a.add off))))
      | none => False
    | _, _ => False) := by
  unfold faC at h
  split at h
  · rename_i fs i a ht
    cases hx with
    | @ptr _ _ y hy =>
    rw [ht]
    dsimp only
    split at h
    · rename_i off size hp
      rw [hp]
      dsimp only
      cases hb : Nat.beq size 0 with
      | true => rw [hb] at h; cases h
      | false =>
        rw [hb, cond_false] at h
        rw [cond_false, add_mk]
        exact hK _ _ (fN_ok (k := fun a' => k (.ptr i a')) h) (.ptr hy)
    · cases h
  · cases h

theorem partC_ok {d : TypeDesc} {size off : Nat} {cs : List AV} {us : List Value} {k : AV → Bool} {φ : Value → Prop} (h : partC d size off cs k = true) (hc : VsR ρ cs us) (hK : KP ρ k φ) : partOf d size off us φ := by
  unfold partC at h
  unfold partOf
  cases hd : isAggD d with
  | true =>
    rw [hd, cond_true] at h
    exact hK _ _ h (.agg ((hc.drop _).take _))
  | false =>
    rw [hd, cond_false] at h
    rw [cond_false]
    split at h
    · rename_i v hv
      obtain ⟨u, h1, h2⟩ := hc.get hv
      rw [h1]
      exact hK _ _ h h2
    · cases h

theorem fdC_ok {t : TypeId} {x : AV} {x' : Value} {f : Nat} {k : AV → Bool} {φ : Value → Prop} (h : fdC P t x f k = true) (hx : VR ρ x x') (hK : KP ρ k φ) :
    (match (generalizing := false) P.underlying t, x' with
    | some (.struct fs), .agg cs => match (generalizing := false) fs.toList[f]? with
      | some fd => match (generalizing := false) P.underlying fd.type, sizeOf? P fd.type with
        | some d, some size => partOf d size fd.offset cs.toList φ
        | _, _ => False
      | none => False
    | _, _ => False) := by
  unfold fdC at h
  split at h
  · rename_i fs cs ht
    cases hx with
    | agg hx =>
    rw [ht]
    dsimp only
    split at h
    · rename_i fd hf
      rw [hf]
      dsimp only
      split at h
      · rename_i d size h1 h2
        rw [h1, h2]
        exact partC_ok h hx hK
      · cases h
    · cases h
  · cases h

theorem iaC_ok {t : TypeId} {x i : AV} {x' i' : Value} {k : AV → Bool} {φ : Value → Prop} (h : iaC P t x i k = true) (hx : VR ρ x x') (hi : VR ρ i i') (hK : KP ρ k φ) :
    (match (generalizing := false) P.underlying t, x', i' with
    | some (.slice e), .slice a n c, .int _ i => match (generalizing := false) sizeOf? P e with
      | some size => AtIx ⟨a, n, c⟩ size i fun a' => φ (.pointer (some a'))
      | none => False
    | some (.array n e), .pointer (some a), .int _ i => match (generalizing := false) sizeOf? P e with
      | some size => 0 ≤ i ∧ i < (n : Int) ∧ φ (.pointer (some (a.add (i.toNat * size))))
      | none => False
    | _, _, _ => False) := by
  unfold iaC at h
  split at h
  · rename_i e kd i ht
    cases hi
    split at h
    · rename_i size b o len c hs
      cases hx with
      | @sl _ _ _ _ y hy =>
      obtain ⟨g, h⟩ := cond_ok h
      rw [ht]
      dsimp only
      rw [hs]
      refine ⟨_, rfl, Int.natCast_nonneg _, by have := Nat.le_of_ble_eq_true g; show (i : Int) < (len : Int); omega, ?_⟩
      rw [add_mk]
      exact hK _ _ (fN_ok (k := fun a => k (.ptr b a)) h) (.ptr hy)
    · rename_i size b o len c hs
      cases hx with
      | @slo _ _ _ _ y hy =>
      obtain ⟨g, h⟩ := cond_ok h
      rw [ht]
      dsimp only
      rw [hs]
      refine ⟨_, rfl, Int.natCast_nonneg _, by have := Nat.le_of_ble_eq_true g; show (i : Int) < (len : Int); omega, ?_⟩
      rw [add_mk]
      exact hK _ _ (fN_ok (k := fun a => k (.ptr b a)) h) (.ptr hy)
    · cases h
  · rename_i n e b o kd i ht
    cases hi
    split at h
    · rename_i size hs
      cases hx with
      | @ptr _ _ y hy =>
      obtain ⟨g, h⟩ := cond_ok h
      rw [ht]
      dsimp only
      rw [hs]
      refine ⟨Int.natCast_nonneg _, by have := Nat.le_of_ble_eq_true g; show (i : Int) < (n : Int); omega, ?_⟩
      rw [add_mk]
      exact hK _ _ (fN_ok (k := fun a => k (.ptr b a)) h) (.ptr hy)
    · cases h
  · cases h

theorem ixC_ok {t : TypeId} {x i : AV} {x' i' : Value} {k : AV → Bool} {φ : Value → Prop} (h : ixC P t x i k = true) (hx : VR ρ x x') (hi : VR ρ i i') (hK : KP ρ k φ) :
    (match (generalizing := false) P.underlying t, x', i' with
    | some .string, .string s, .int _ i => StrIx s i fun n => φ (.int .u8 n)
    | some (.array n e), .agg cs, .int _ i => match (generalizing := false) P.underlying e, sizeOf? P e with
      | some d, some size => 0 ≤ i ∧ i < (n : Int) ∧ partOf d size (i.toNat * size) cs.toList φ
      | _, _ => False
    | _, _, _ => False) := by
  unfold ixC at h
  split at h
  · rename_i b kd i ht
    cases hi
    cases hx
    rw [ht]
    split at h
    · rename_i c hc
      refine ⟨c, Int.natCast_nonneg _, ?_, hK _ _ (fN_ok (k := fun n => k (.int .u8 (.ofNat n))) h) (.int _ _)⟩
      show b.data[i]? = some c
      rw [← Array.getElem?_toList]; exact hc
    · cases h
  · rename_i n e cs kd i ht
    cases hi
    cases hx with
    | agg hx =>
    rw [ht]
    dsimp only
    split at h
    · rename_i d size h1 h2
      rw [h1, h2]
      obtain ⟨g, h⟩ := cond_ok h
      exact ⟨Int.natCast_nonneg _, by have := Nat.le_of_ble_eq_true g; show (i : Int) < (n : Int); omega, partC_ok h hx hK⟩
    · cases h
  · cases h

theorem exC_ok {ty : TypeId} {t : AV} {t' : Value} {i : Nat} {k : AV → Bool} {φ : Value → Prop} (h : exC P ty t i k = true) (hx : VR ρ t t') (hK : KP ρ k φ) :
    (match (generalizing := false) t' with
    | .tuple vs => match (generalizing := false) vs.toList[i]? with
      | some v => match (generalizing := false) shapeOf P ty with
        | some (.one k) => k.dec v fun x => φ (k.enc x)
        | _ => φ v
      | none => False
    | _ => False) := by
  unfold exC at h
  split at h
  · cases hx with
    | tup hx =>
    dsimp only
    split at h
    · rename_i v hv
      obtain ⟨u, h1, h2⟩ := hx.get hv
      rw [h1]
      dsimp only
      split at h
      · rename_i kd hs
        rw [hs]
        obtain ⟨g, h⟩ := cond_ok h
        obtain ⟨y, rfl⟩ := kOk_ok h2 g
        dsimp only
        rw [dec_self]
        exact hK _ _ h h2
      · rename_i hn
        have := hK _ _ h h2
        split
        · rename_i kd hs
          exact absurd hs (hn kd)
        · exact this
    · cases h
  · cases h
end
end Gp.Rn
