import Derived.Test.YtliadndafhdigaaGreatDoorW5
section
namespace Gp.Rn
open Go Gp
section
variable {lp : Bool} {w0 w : World} {ρ : Nm} {s : St} {P : Program} {k : AV -> St -> Bool} {K : Value -> World -> Prop}
theorem Ht {t : TypeId} {x : AV} {x' : Value} (h : Jc P t x s k = true) (hr : Rel w0 ρ s w) (hx : VR ρ x x') (hK : KK lp w0 ρ s w k K) :
    (match (generalizing := false) P.underlying t, x' with
    | some (.map _ _), .map r => Dq r w fun a w' => K (.pointer (some a)) w'
    | _, _ => False) := by
  unfold Jc at h
  split at h
  · rename_i kt et ht
    cases hx
    obtain ⟨i, s', h, q0, q1, q2⟩ := bI h
    obtain ⟨r1, r2, r3⟩ := hr.alloc (x := ⟨w.heap.size, 0, fun _ _ _ => False⟩) (o := .mapIter none 0 #[] 0) q0 q1 q2 rfl fun ρ' _ _ => ⟨_, _, _, World.alloc_heap_new w _⟩
    rw [ht]
    exact .inl ⟨rfl, hK.of h r2 r1 (VR.ptr (aK ρ i _)) r3⟩
  · rename_i kt et m ht
    split at h
    · rename_i es c hg
      cases hx with
      | @map _ y hy =>
      obtain ⟨es', g1, g2⟩ := hr.br m _ y hg hy
      obtain ⟨i, s', h, q0, q1, q2⟩ := bI h
      obtain ⟨r1, r2, r3⟩ := hr.alloc (x := ⟨w.heap.size, 0, fun _ _ _ => False⟩) (o := .mapIter (some y.b) c #[] c) q0 q1 q2 rfl fun ρ' hl _ => ⟨y, hl _ _ hy, World.alloc_heap_new w _, Nat.le_refl _⟩
      rw [ht]
      exact .inr ⟨y.b, ⟨es'⟩, c, rfl, g1, hK.of h r2 r1 (VR.ptr (aK ρ i _)) r3⟩
    · cases h
  · cases h
theorem Dk (b : Nat) : ∀ l : List Nat, Iw b l = (⟨l⟩ : Array Nat).contains b
  | [] => by simp [Iw]
  | x :: r => by
    unfold Iw
    rw [Dk b r]
    simp only [List.contains_toArray, List.contains_cons]
    by_cases h : x = b
    · subst h; rw [show Nat.beq x x = true from Nat.beq_refl _]; simp
    · have h1 : Nat.beq x b = false := by
        cases hb : Nat.beq x b with
        | false => rfl
        | true => exact absurd (Nat.eq_of_beq_eq_true hb) h
      have h2 : (b == x) = false := by simpa using fun e => h e.symm
      rw [h1, h2]; simp
theorem Dh {since : Nat} {seen : List Nat} {es : List (AV × AV × Nat)} {es' : List MapEntry} (h : kQ ρ es es') : kQ ρ (wR since seen es) (leftOf ⟨es'⟩ ⟨seen⟩).toList := by
  have e : (leftOf ⟨es'⟩ ⟨seen⟩).toList = es'.filter fun e => !(⟨seen⟩ : Array Nat).contains e.born := by
    unfold leftOf
    rw [Array.toList_filter]
  rw [e]
  induction h with
  | nil => exact .nil
  | cons h1 h2 h3 hr0 ih =>
    rename_i a v n m es es'
    have ih := ih (by unfold leftOf; rw [Array.toList_filter])
    unfold wR
    dsimp only
    rw [Dk, <- h3]
    cases hb : (⟨seen⟩ : Array Nat).contains m.born with
    | true => rw [cond_true, List.filter_cons_of_neg (by rw [hb]; simp)]; exact ih
    | false => rw [cond_false, List.filter_cons_of_pos (by rw [hb]; rfl)]; exact .cons h1 h2 rfl ih
theorem vk {n : Nat} {es : List (AV × AV × Nat)} {es' : List MapEntry} (h : kQ ρ es es') (g : lu n es = true) : ∀ x ∈ es', x.born < n := by
  induction h with
  | nil => simp
  | cons h1 h2 h3 _ ih =>
    unfold lu at g
    rw [Bool.and_eq_true] at g
    intro x hx
    rcases List.mem_cons.1 hx with rfl | hx
    · rw [h3]; exact Nat.le_of_ble_eq_true g.1
    · exact ih g.2 x hx
theorem Cj {x : AV} {x' : Value} (h : vY x s k = true) (hr : Rel w0 ρ s w) (hx : VR ρ x x') (hK : KK lp w0 ρ s w k K) :
    (match (generalizing := false) x' with
    | .pointer (some a) => a = ⟨a.block, 0, none⟩ ∧ FP a.block w (K (.tuple ⟨[.bool false]⟩)) fun k v w' => K (.tuple ⟨[.bool true, k, v]⟩) w'
    | _ => False) := by
  unfold vY at h
  split at h
  · rename_i i
    cases hx with
    | @ptr _ _ y hy =>
    refine ⟨rfl, ?_⟩
    split at h
    · rename_i hg
      obtain ⟨a, b, c, g⟩ := hr.br i _ y hg hy
      exact .inl ⟨_, _, _, g, hK.pure hr h (.aY (.cons (.bool false) .nil))⟩
    · rename_i m since seen c0 hg
      obtain ⟨z, g1, g2, g3⟩ := hr.br i _ y hg hy
      split at h
      · rename_i es c hgm
        obtain ⟨es', m1, m2⟩ := hr.br m _ z hgm g1
        obtain ⟨hab, h⟩ := aj h
        rw [Bool.and_eq_true] at hab
        have hl := Dh (since := since) (seen := seen) m2
        refine .inr ⟨z.b, since, ⟨seen⟩, c0, ⟨es'⟩, c, g2, m1, vk m2 hab.1, g3, ?_, ?_⟩
        · intro hz
          split at h
          · exact hK.pure hr h (.aY (.cons (.bool false) .nil))
          · rename_i he
            rw [he] at hl
            have := hl.len
            have hz' : (leftOf ⟨es'⟩ ⟨seen⟩).toList.length = 0 := by rw [Array.length_toList]; exact hz
            rw [hz'] at this
            simp at this
          · cases h
        · intro e he w1 hw1
          split at h
          · rename_i hn
            rw [hn] at hl
            generalize (leftOf ⟨es'⟩ ⟨seen⟩).toList = L at hl he
            cases hl
            simp at he
          · rename_i a b n hn
            rw [hn] at hl
            generalize (leftOf ⟨es'⟩ ⟨seen⟩).toList = L at hl he
            cases hl with
            | cons q1 q2 q3 q4 =>
            cases q4
            rw [List.mem_singleton.1 he]
            obtain ⟨s', h, p1, p2⟩ := bU h
            have hr1 : Rel w0 ρ s w1 := by rcases hw1 with rfl | rfl; exact hr; exact hr.drew
            have hp : (⟨seen⟩ : Array Nat).push n = ⟨seen ++ [n]⟩ := by apply Array.ext'; simp
            rw [q3, hp]
            obtain ⟨r1, l1⟩ := cu (o := .mapIter (some z.b) since ⟨seen ++ [n]⟩ c) hr1 hy hg trivial trivial p1 p2 fun w' hw' => ⟨z, g1, hw', Nat.le_of_ble_eq_true hab.2⟩
            refine hK.of h (Le.refl ρ) r1 (.aY (.cons (.bool true) (.cons q1 (.cons q2 .nil)))) ?_
            rcases hw1 with rfl | rfl
            · exact l1
            · exact l1
          · cases h
      · cases h
    · cases h
  · cases h
theorem su {n : Nat} {es : List (AV × AV × Nat)} {es' : List MapEntry} (h : kQ ρ es es') : (mX n es = none -> ∀ x ∈ es', x.born ≠ n) ∧ ∀ a b, mX n es = some (a, b) -> ∃ e ∈ es', e.born = n ∧ VR ρ a e.key ∧ VR ρ b e.val := by
  induction h with
  | nil => exact ⟨fun _ => by simp, fun a b h => by cases h⟩
  | cons h1 h2 h3 hr0 ih =>
    rename_i a v m e es es'
    unfold mX
    dsimp only
    by_cases hm : m = n
    · rw [show Nat.beq m n = true by rw [hm]; exact Nat.beq_refl _, cond_true]
      refine ⟨fun h => (by cases h), fun a b h => ?_⟩
      cases h
      exact ⟨e, List.mem_cons_self .., by rw [h3, hm], h1, h2⟩
    · have hb : Nat.beq m n = false := by
        cases hb : Nat.beq m n with
        | false => rfl
        | true => exact absurd (Nat.eq_of_beq_eq_true hb) hm
      rw [hb, cond_false]
      refine ⟨fun h x hx => ?_, fun a b h => ?_⟩
      · rcases List.mem_cons.1 hx with rfl | hx
        · rw [h3]; exact hm
        · exact ih.1 h x hx
      · obtain ⟨e', g1, g2⟩ := ih.2 a b h
        exact ⟨e', List.mem_cons_of_mem _ g1, g2⟩
theorem AX {es : List (AV × AV × Nat)} {es' : List MapEntry} (h : kQ ρ es es') (g : uH es = true) : (es'.map (·.born)).Nodup := by
  induction h with
  | nil => exact List.nodup_nil
  | cons h1 h2 h3 hr ih =>
    unfold uH at g
    rw [Bool.and_eq_true] at g
    rw [List.map_cons, List.nodup_cons]
    refine ⟨fun hm => ?_, ih g.2⟩
    obtain ⟨x, hx, he⟩ := List.mem_map.1 hm
    have g1 := g.1
    dsimp only at g1
    split at g1
    · rename_i hn
      exact (su hr).1 hn x hx (he.trans h3)
    · cases g1
theorem wu : ∀ {l : List Nat} {n : Nat}, BD l = some n -> ∃ r, l = r ++ [n]
  | [], _, h => by cases h
  | [x], _, h => by cases h; exact ⟨[], rfl⟩
  | x :: y :: r, n, h => by
    obtain ⟨q, hq⟩ := wu (l := y :: r) h
    exact ⟨x :: q, by rw [hq]; rfl⟩
theorem zS {x : AV} {x' : Value} {k : AV -> Bool} {φ : Value -> Prop} (h : pJ x s k = true) (hr : Rel w0 ρ s w) (hx : VR ρ x x') (hK : KP ρ k φ) :
    (match (generalizing := false) x' with
    | .pointer (some a) => a = ⟨a.block, 0, none⟩ ∧ BI a.block w fun k v => φ (.tuple ⟨[k, v]⟩)
    | _ => False) := by
  unfold pJ at h
  split at h
  · rename_i i
    cases hx with
    | @ptr _ _ y hy =>
    refine ⟨rfl, ?_⟩
    split at h
    · rename_i m since seen c hg
      obtain ⟨z, g1, g2, g3⟩ := hr.br i _ y hg hy
      split at h
      · rename_i es c' n hgm hl
        obtain ⟨es', m1, m2⟩ := hr.br m _ z hgm g1
        obtain ⟨hnd, hq⟩ := aj h
        clear h
        rw [Bool.and_eq_true] at hnd
        have hc := Nat.eq_of_beq_eq_true hnd.2
        subst hc
        split at hq
        · rename_i a b hb
          obtain ⟨e, e1, e2, e3, e4⟩ := (su m2).2 a b hb
          obtain ⟨r, rfl⟩ := wu hl
          refine ⟨z.b, since, ⟨r⟩, ⟨es'⟩, c, e, ?_, m1, e1, AX m2 hnd.1, hK _ _ hq (.aY (.cons e3 (.cons e4 .nil)))⟩
          have hp : (⟨r⟩ : Array Nat).push e.born = ⟨r ++ [n]⟩ := by apply Array.ext'; simp [e2]
          rw [hp]
          exact g2
        · cases hq
      · cases h
    · cases h
  · cases h
theorem F9 {t : TypeId} {x : AV} {x' : Value} {f : Nat} {k : AV -> Bool} {φ : Value -> Prop} (h : Jg P t x f k = true) (hx : VR ρ x x') (hK : KP ρ k φ) :
    (match (generalizing := false) P.underlying t, x' with
    | some (.struct fs), .pointer (some a) => match (generalizing := false) fE P fs f with
      | some (off, size) => cond (Nat.beq size 0) False (φ (.pointer (some (a.add off))))
      | none => False
    | _, _ => False) := by
  unfold Jg at h
  split at h
  · rename_i fs i a ht
    cases hx with
    | @ptr _ _ y hy =>
    rw [ht]
    dsimp only
    split at h
    · rename_i off size hp
      rw [hp]
      dsimp only
      cases hb : Nat.beq size 0 with
      | true => rw [hb] at h; cases h
      | false =>
        rw [hb, cond_false] at h
        rw [cond_false, aJ]
        exact hK _ _ (bQ (k := fun a' => k (.ptr i a')) h) (.ptr hy)
    · cases h
  · cases h
theorem wz {d : TypeDesc} {size off : Nat} {cs : List AV} {us : List Value} {k : AV -> Bool} {φ : Value -> Prop} (h : rF d size off cs k = true) (hc : bf ρ cs us) (hK : KP ρ k φ) : partOf d size off us φ := by
  unfold rF at h
  unfold partOf
  cases hd : iP d with
  | true =>
    rw [hd, cond_true] at h
    exact hK _ _ h (.agg ((hc.drop _).take _))
  | false =>
    rw [hd, cond_false] at h
    rw [cond_false]
    split at h
    · rename_i v hv
      obtain ⟨u, h1, h2⟩ := hc.get hv
      rw [h1]
      exact hK _ _ h h2
    · cases h
theorem G5 {t : TypeId} {x : AV} {x' : Value} {f : Nat} {k : AV -> Bool} {φ : Value -> Prop} (h : Jd P t x f k = true) (hx : VR ρ x x') (hK : KP ρ k φ) :
    (match (generalizing := false) P.underlying t, x' with
    | some (.struct fs), .agg cs => match (generalizing := false) fs.toList[f]? with
      | some fd => match (generalizing := false) P.underlying fd.type, au P fd.type with
        | some d, some size => partOf d size fd.offset cs.toList φ
        | _, _ => False
      | none => False
    | _, _ => False) := by
  unfold Jd at h
  split at h
  · rename_i fs cs ht
    cases hx with
    | agg hx =>
    rw [ht]
    dsimp only
    split at h
    · rename_i fd hf
      rw [hf]
      dsimp only
      split at h
      · rename_i d size h1 h2
        rw [h1, h2]
        exact wz h hx hK
      · cases h
    · cases h
  · cases h
theorem Gv {t : TypeId} {x i : AV} {x' i' : Value} {k : AV -> Bool} {φ : Value -> Prop} (h : Je P t x i k = true) (hx : VR ρ x x') (hi : VR ρ i i') (hK : KP ρ k φ) :
    (match (generalizing := false) P.underlying t, x', i' with
    | some (.slice e), .slice a n c, .int _ i => match (generalizing := false) au P e with
      | some size => Es ⟨a, n, c⟩ size i fun a' => φ (.pointer (some a'))
      | none => False
    | some (.array n e), .pointer (some a), .int _ i => match (generalizing := false) au P e with
      | some size => 0 <= i ∧ i < (n : Int) ∧ φ (.pointer (some (a.add (i.toNat * size))))
      | none => False
    | _, _, _ => False) := by
  unfold Je at h
  split at h
  · rename_i e kd i ht
    cases hi
    split at h
    · rename_i size b o len c hs
      cases hx with
      | @sl _ _ _ _ y hy =>
      obtain ⟨g, h⟩ := aj h
      rw [ht]
      dsimp only
      rw [hs]
      refine ⟨_, rfl, Int.natCast_nonneg _, by have := Nat.le_of_ble_eq_true g; show (i : Int) < (len : Int); omega, ?_⟩
      rw [aJ]
      exact hK _ _ (bQ (k := fun a => k (.ptr b a)) h) (.ptr hy)
    · rename_i size b o len c hs
      cases hx with
      | @slo _ _ _ _ y hy =>
      obtain ⟨g, h⟩ := aj h
      rw [ht]
      dsimp only
      rw [hs]
      refine ⟨_, rfl, Int.natCast_nonneg _, by have := Nat.le_of_ble_eq_true g; show (i : Int) < (len : Int); omega, ?_⟩
      rw [aJ]
      exact hK _ _ (bQ (k := fun a => k (.ptr b a)) h) (.ptr hy)
    · cases h
  · rename_i n e b o kd i ht
    cases hi
    split at h
    · rename_i size hs
      cases hx with
      | @ptr _ _ y hy =>
      obtain ⟨g, h⟩ := aj h
      rw [ht]
      dsimp only
      rw [hs]
      refine ⟨Int.natCast_nonneg _, by have := Nat.le_of_ble_eq_true g; show (i : Int) < (n : Int); omega, ?_⟩
      rw [aJ]
      exact hK _ _ (bQ (k := fun a => k (.ptr b a)) h) (.ptr hy)
    · cases h
  · cases h
theorem FX {t : TypeId} {x i : AV} {x' i' : Value} {k : AV -> Bool} {φ : Value -> Prop} (h : Jf P t x i k = true) (hx : VR ρ x x') (hi : VR ρ i i') (hK : KP ρ k φ) :
    (match (generalizing := false) P.underlying t, x', i' with
    | some .string, .string s, .int _ i => FH s i fun n => φ (.int .u8 n)
    | some (.array n e), .agg cs, .int _ i => match (generalizing := false) P.underlying e, au P e with
      | some d, some size => 0 <= i ∧ i < (n : Int) ∧ partOf d size (i.toNat * size) cs.toList φ
      | _, _ => False
    | _, _, _ => False) := by
  unfold Jf at h
  split at h
  · rename_i b kd i ht
    cases hi
    cases hx
    rw [ht]
    split at h
    · rename_i c hc
      refine ⟨c, Int.natCast_nonneg _, ?_, hK _ _ (bQ (k := fun n => k (.int .u8 (.ofNat n))) h) (.int _ _)⟩
      show b.data[i]? = some c
      rw [<- Array.getElem?_toList]; exact hc
    · cases h
  · rename_i n e cs kd i ht
    cases hi
    cases hx with
    | agg hx =>
    rw [ht]
    dsimp only
    split at h
    · rename_i d size h1 h2
      rw [h1, h2]
      obtain ⟨g, h⟩ := aj h
      exact ⟨Int.natCast_nonneg _, by have := Nat.le_of_ble_eq_true g; show (i : Int) < (n : Int); omega, wz h hx hK⟩
    · cases h
  · cases h
theorem He {ty : TypeId} {t : AV} {t' : Value} {i : Nat} {k : AV -> Bool} {φ : Value -> Prop} (h : Jh P ty t i k = true) (hx : VR ρ t t') (hK : KP ρ k φ) :
    (match (generalizing := false) t' with
    | .tuple vs => match (generalizing := false) vs.toList[i]? with
      | some v => match (generalizing := false) shapeOf P ty with
        | some (.one k) => k.dec v fun x => φ (k.enc x)
        | _ => φ v
      | none => False
    | _ => False) := by
  unfold Jh at h
  split at h
  · cases hx with
    | aY hx =>
    dsimp only
    split at h
    · rename_i v hv
      obtain ⟨u, h1, h2⟩ := hx.get hv
      rw [h1]
      dsimp only
      split at h
      · rename_i kd hs
        rw [hs]
        obtain ⟨g, h⟩ := aj h
        obtain ⟨y, rfl⟩ := iO h2 g
        dsimp only
        rw [lZ]
        exact hK _ _ h h2
      · rename_i hn
        have := hK _ _ h h2
        split
        · rename_i kd hs
          exact absurd hs (hn kd)
        · exact this
    · cases h
  · cases h
end
end Gp.Rn
end
section
namespace Gp.Rn
open Go Gp
structure qA (lp : Bool) (P : Program) (w0 : World) (ρ0 : Nm) (cb : Cb) : Prop where
  call : ∀ (f : FuncId) (args : List AV) (s : St) (k : List AV -> St -> Bool) (ρ : Nm) (w : World) (args' : List Value) (K : List Value -> World -> Prop), cb.call f args s k = true -> Le ρ0 ρ -> Rel w0 ρ s w -> bf ρ args args' ->
    (∀ rs s', k rs s' = true -> ∀ ρ' w' rs', Le ρ ρ' -> Rel w0 ρ' s' w' -> bf ρ' rs rs' -> (lp = true -> Lp ρ s w s' w') -> K rs' w') -> Calls P f ⟨args'⟩ w fun e w' => ∃ vs, e = .returned (aY vs) ∧ K vs w'
  yld : ∀ (l : Nat) (args : List AV) (s : St) (k : Bool -> St -> Bool) (ρ : Nm) (w : World) (args' : List Value) (x : Loc) (K : Bool -> World -> Prop), cb.yld l args s k = true -> Le ρ0 ρ -> Rel w0 ρ s w -> ρ l = some x -> bf ρ args args' ->
    (∀ b s', k b s' = true -> ∀ ρ' w', Le ρ ρ' -> Rel w0 ρ' s' w' -> (lp = true -> Lp ρ s w s' w') -> K b w') -> kN P x.b args' w K
theorem FY (P : Program) (w0 : World) (ρ0 : Nm) : qA true P w0 ρ0 cb0 := ⟨fun f args s k ρ w args' K h => (by cases h), fun l args s k ρ w args' x K h => (by cases h)⟩
theorem kK : ∀ {sh : List Shape} {φ ψ : List Value -> Prop}, (∀ us, φ us -> ψ us) -> bJ sh φ -> bJ sh ψ := by
  have hks : ∀ (ks : List Kind) (φ ψ : List Value -> Prop), (∀ us, φ us -> ψ us) -> Aj ks φ -> Aj ks ψ := by
    intro ks
    induction ks with
    | nil => exact fun φ ψ h g => h _ g
    | cons k ks ih => exact fun φ ψ h ⟨x, g⟩ => ⟨x, ih _ _ (fun us => h _) g⟩
  have hsh : ∀ (sh : Shape) (φ ψ : Value -> Prop), (∀ u, φ u -> ψ u) -> sh.ex φ -> sh.ex ψ := by
    intro sh φ ψ h g
    cases sh with
    | one k => obtain ⟨x, g⟩ := g; exact ⟨x, h _ g⟩
    | agg ks => exact hks ks _ _ (fun us => h _) g
  intro sh
  induction sh with
  | nil => exact fun h g => h _ g
  | cons s sh ih => exact fun h g => hsh s _ _ (fun u g => ih (fun us => h _) g) g
theorem kP : ∀ {v : List Value} {a : List AV}, gZ v = some a -> ∀ x ∈ v, bM x = true := by
  intro v
  induction v with
  | nil => intro a _ x hx; simp at hx
  | cons u v ih =>
    intro a h x hx
    unfold gZ at h
    split at h
    · rename_i q1 q2 q3 q4
      rcases List.mem_cons.1 hx with rfl | hx
      · unfold vJ at q3
        split at q3 <;> first | rfl | cases q3
      · exact ih q4 x hx
    · cases h
section
variable {lp : Bool} {w0 w : World} {ρ ρ0 : Nm} {s : St} {P : Program} {k : AV -> St -> Bool} {K : Value -> World -> Prop} {cb : Cb}
theorem DU {ty : TypeId} {f : FuncId} {args : List AV} {args' : List Value} (hcb : qA lp P w0 ρ0 cb) (h : Hw P cb ty f args s k = true) (hl : Le ρ0 ρ) (hr : Rel w0 ρ s w) (ha : bf ρ args args') (hK : KK lp w0 ρ s w k K) :
    ∃ sh, eH P ty = some sh ∧ bK P f = true ∧ rX P sh f args' w K := by
  unfold Hw at h
  split at h
  · rename_i sh hs
    obtain ⟨hb, h⟩ := aj h
    refine ⟨sh, hs, hb, ?_⟩
    refine Calls.mono (hcb.call f args s _ ρ w args' (fun vs w' => bJ sh fun us => aY vs = aY us ∧ K (aY us) w') h hl hr ha fun rs s' hk ρ' w' rs' l' r' v' p' => ?_) ?_
    · obtain ⟨g, hk⟩ := aj hk
      exact jE v' g ⟨rfl, hK _ _ hk ρ' w' _ l' r' (yK v') p'⟩
    · rintro e w' ⟨vs, rfl, hx⟩
      exact kK (fun us ⟨a, b⟩ => ⟨by rw [a], b⟩) hx
  · cases h
theorem Gu {ty : TypeId} {v : AV} {v' : Value} {args : List AV} {args' : List Value} (hcb : qA lp P w0 ρ0 cb) (h : Jl P cb ty v args s k = true) (hl : Le ρ0 ρ) (hr : Rel w0 ρ s w) (hv : VR ρ v v') (ha : bf ρ args args') (hK : KK lp w0 ρ s w k K) :
    ∃ sh, eH P ty = some sh ∧ y5 P sh v' args' w fun r w' => bJ sh fun vs => r = aY vs ∧ K (aY vs) w' := by
  unfold Jl at h
  split at h
  · rename_i sh f first cap hs
    cases hv with
    | fn _ h1 h2 =>
    refine ⟨sh, hs, ?_⟩
    obtain ⟨hb, h⟩ := aj h
    show cond (bK P f) _ False
    rw [hb, cond_true]
    refine Calls.mono (hcb.call f _ s _ ρ w _ (fun vs w' => bJ sh fun us => aY vs = aY us ∧ bJ sh fun us' => aY us = aY us' ∧ K (aY us') w') h hl hr (h1.app (ha.app h2)) fun rs s' hk ρ' w' rs' l' r' v' p' => ?_) ?_
    · obtain ⟨g, hk⟩ := aj hk
      exact jE v' g ⟨rfl, jE v' g ⟨rfl, hK _ _ hk ρ' w' _ l' r' (yK v') p'⟩⟩
    · rintro e w' ⟨vs, rfl, hx⟩
      exact kK (fun us ⟨a, b⟩ => ⟨by rw [a], b⟩) hx
  · rename_i sh l hs
    cases hv with
    | @yld _ x hx =>
    refine ⟨sh, hs, ?_⟩
    show kN P x.b (_ ++ args') w _
    refine hcb.yld l args s _ ρ w args' x _ h hl hr hx ha fun b s' hk ρ' w' l' r' p' => ?_
    obtain ⟨g, hk⟩ := aj hk
    exact jE (ρ := ρ') (.cons (.bool b) .nil) g ⟨rfl, hK _ _ hk ρ' w' _ l' r' (.bool b) p'⟩
  · cases h
theorem pY {mx : Bool} {kd : IntKind} {k : AV -> Bool} {φ : Value -> Prop} (hK : KP ρ k φ) : ∀ {r : List AV} {r' : List Value} {x : Int}, bf ρ r r' -> pX mx x r kd k = true -> fP mx x r' kd φ
  | [], _, x, h, g => by
    cases h
    exact hK _ _ (nO (k := fun x => k (.int kd x)) g) (.int _ _)
  | a :: r, _, x, h, g => by
    cases h with
    | cons h h' =>
    unfold pX at g
    split at g
    · rename_i he
      cases he
    · rename_i kd' y r1 he
      cases he
      cases h
      unfold fP
      have := pY hK h' g
      have e1 : ∀ x y : Int, (if y > x then y else x) = cond (decide (y > x)) y x := fun x y => by by_cases hh : y > x <;> simp [hh]
      have e2 : ∀ x y : Int, (if y < x then y else x) = cond (decide (y < x)) y x := fun x y => by by_cases hh : y < x <;> simp [hh]
      rw [e1, e2]
      exact this
    · cases g
theorem FT {b : Builtin} {ts : List TypeId} {args : List AV} {args' : List Value} (h : Il P b ts args s k = true) (hr : Rel w0 ρ s w) (ha : bf ρ args args') (hK : KK lp w0 ρ s w k K) : aG P b ts args' w K := by
  unfold Il at h
  split at h
  ·
    split at h
    · rename_i t x
      cases ha with
      | cons hx hn =>
      cases hn
      unfold aG
      dsimp only
      split at h
      · rename_i b ht
        rw [ht]
        cases hx
        exact hK.pure hr (bQ (k := fun n => k (.int .i64 (.ofNat n)) s) h) (.int _ _)
      · rename_i n e ht
        rw [ht]
        have := hK.pure hr h (.int _ _)
        cases hx <;> exact this
      · rename_i e ht
        rw [ht]
        split at h
        · rename_i n hn
          obtain ⟨a, c, rfl⟩ := iV hn hx
          exact hK.pure hr h (.int _ _)
        · cases h
      · rename_i kt et ht
        rw [ht]
        cases hx
        exact hK.pure hr h (.int _ _)
      · rename_i kt et r ht
        rw [ht]
        cases hx with
        | @map _ x hx =>
        split at h
        · rename_i es c hg
          obtain ⟨es', g1, g2⟩ := hr.br r _ x hg hx
          refine ⟨⟨es'⟩, c, g1, ?_⟩
          have := hK.pure hr (bQ (k := fun n => k (.int .i64 (.ofNat n)) s) h) (.int _ _)
          rw [g2.len] at this
          exact this
        · cases h
      · cases h
    · cases h
  ·
    split at h
    · rename_i t x
      cases ha with
      | cons hx hn =>
      cases hn
      unfold aG
      split at h
      · rename_i e ht
        cases hx
        dsimp only
        rw [ht]
        exact hK.pure hr h (.int _ _)
      · rename_i e _ _ _ c ht
        cases hx
        dsimp only
        rw [ht]
        exact hK.pure hr h (.int _ _)
      · cases h
    · cases h
  ·
    split at h
    · cases ha with
      | cons hx hn =>
      cases hx
      exact pY (hK.kp hr) hn h
    · cases h
  ·
    split at h
    · cases ha with
      | cons hx hn =>
      cases hx
      exact pY (hK.kp hr) hn h
    · cases h
  ·
    split at h
    · rename_i t t' x y
      cases ha with
      | cons hx hn =>
      cases hn with
      | cons hy hn =>
      cases hn
      rename_i x' y'
      split at h
      · rename_i e d ht ht'
        split at h
        · rename_i size bytes z hs hb hz
          have hxs : ∀ (n : Nat) (vs : List AV), sV size bytes z.length x n vs s k = true -> ∃ a l c, x' = .slice a l c := by
            intro n vs g
            unfold sV at g
            obtain ⟨_, g⟩ := aj g
            cases hx <;> first | exact ⟨_, _, _, rfl⟩ | cases g
          unfold aG
          split at h
          · rename_i e'
            split at h
            · rename_i n hn
              obtain ⟨a', c', rfl⟩ := iV hn hy
              split at h
              · rename_i vs hvs
                obtain ⟨a, l, c, rfl⟩ := hxs _ _ h
                obtain ⟨us, g1, g2, _⟩ := xP hr hvs hy
                dsimp only
                rw [ht, ht']
                dsimp only
                rw [hs, hb, hz]
                exact ⟨us, g2, uM h hr hx g1 hK⟩
              · cases h
            · cases h
          · split at h
            · rename_i b
              cases hy
              obtain ⟨a, l, c, rfl⟩ := hxs _ _ h
              dsimp only
              rw [ht, ht']
              dsimp only
              rw [hs, hb, hz]
              exact uM h hr hx (Ba _) hK
            · cases h
          · split at h
            · rename_i kd n za hza
              cases hy
              obtain ⟨g, h⟩ := aj h
              rw [Bool.and_eq_true, Bool.and_eq_true] at g
              obtain ⟨a, l, c, rfl⟩ := hxs _ _ h
              dsimp only
              rw [ht, ht']
              dsimp only
              rw [hs, hb, hz]
              dsimp only
              rw [g.1, cond_true]
              have g2 := Nat.le_of_ble_eq_true g.2.1
              have g3 := Nat.le_of_ble_eq_true g.2.2
              refine ⟨Int.natCast_nonneg _, ?_, ?_, ?_⟩
              · show (n : Int) * (bytes : Int) <= 2 ^ 46
                omega
              · show (n : Int) <= 2 ^ 62
                omega
              · exact uM h hr hx ((jc hza).rep n) hK
            · cases h
          · cases h
        · cases h
      · cases h
    · cases h
  ·
    split at h
    · rename_i t t' x y
      cases ha with
      | cons hx hn =>
      cases hn with
      | cons hy hn =>
      cases hn
      rename_i x' y'
      split at h
      · rename_i e ht
        split at h
        · rename_i size n m hs hn hm
          obtain ⟨a, c, rfl⟩ := iV hn hx
          obtain ⟨b, d, rfl⟩ := iV hm hy
          unfold aG
          dsimp only
          rw [ht]
          dsimp only
          rw [hs]
          dsimp only
          split at h
          · rename_i vs hvs
            obtain ⟨us, g1, g2, g3, _⟩ := xP hr hvs hy
            split at h
            · cases hx with
              | @sl _ _ _ _ z hz =>
              obtain ⟨s', h, r1, l1, w1, o1, _⟩ := jv hr hz g1 h
              exact ⟨us, g2, fun a ha => (by cases ha; exact w1), o1, hK.of h (Le.refl ρ) r1 (.int _ _) l1⟩
            · cases hx with
              | @slo _ _ _ _ z hz =>
              obtain ⟨s', h, r1, l1, w1, o1, _⟩ := jv hr hz g1 h
              exact ⟨us, g2, fun a ha => (by cases ha; exact w1), o1, hK.of h (Le.refl ρ) r1 (.int _ _) l1⟩
            · cases hx
              have hu : us = [] := List.length_eq_zero_iff.1 (by rw [g3]; simp [Nat.min])
              subst hu
              refine ⟨[], g2, fun a ha => (by cases ha), by simp, ?_⟩
              have e0 : Nat.min m 0 = 0 := Nat.min_zero m
              show K (.int .i64 ((Nat.min m 0 : Nat) : Int)) w
              rw [e0]
              exact hK.pure hr h (.int _ _)
            · cases h
          · cases h
        · cases h
      · cases h
    · cases h
  ·
    split at h
    · rename_i t x
      cases ha with
      | cons hx hn =>
      cases hn
      split at h
      · rename_i e ht
        split at h
        · rename_i size z i o n c hs hz
          cases hx with
          | @sl _ _ _ _ y hy =>
          obtain ⟨zs, z1, z2⟩ := dD (ρ := ρ) hz
          obtain ⟨g, h⟩ := aj h
          rw [z2.len] at g
          obtain ⟨s', h, r1, l1, w1, o1, _⟩ := jv hr hy (z2.rep n) h
          unfold aG
          dsimp only
          rw [ht]
          dsimp only
          rw [hs, z1]
          dsimp only
          rw [g, cond_true]
          refine ⟨fun a ha => ?_, ?_, hK.of h (Le.refl ρ) r1 (.aY .nil) l1⟩
          · cases ha
            rw [aX] at w1
            exact w1
          · intro v hv
            unfold iF at hz
            rw [z1] at hz
            exact kP hz v hv
        · rename_i size z i o n c hs hz
          cases hx with
          | @slo _ _ _ _ y hy =>
          obtain ⟨zs, z1, z2⟩ := dD (ρ := ρ) hz
          obtain ⟨g, h⟩ := aj h
          rw [z2.len] at g
          obtain ⟨s', h, r1, l1, w1, o1, _⟩ := jv hr hy (z2.rep n) h
          unfold aG
          dsimp only
          rw [ht]
          dsimp only
          rw [hs, z1]
          dsimp only
          rw [g, cond_true]
          refine ⟨fun a ha => ?_, ?_, hK.of h (Le.refl ρ) r1 (.aY .nil) l1⟩
          · cases ha
            rw [aX] at w1
            exact w1
          · intro v hv
            unfold iF at hz
            rw [z1] at hz
            exact kP hz v hv
        · rename_i size z hs hz
          cases hx
          obtain ⟨zs, z1, z2⟩ := dD (ρ := ρ) hz
          obtain ⟨g, h⟩ := aj h
          rw [z2.len] at g
          unfold aG
          dsimp only
          rw [ht]
          dsimp only
          rw [hs, z1]
          dsimp only
          rw [g, cond_true]
          refine ⟨fun a ha => (by cases ha), ?_, hK.pure hr h (.aY .nil)⟩
          intro v hv
          unfold iF at hz
          rw [z1] at hz
          exact kP hz v hv
        · cases h
      · cases h
    · cases h
  ·
    split at h
    · rename_i t t' m key
      cases ha with
      | cons hx hn =>
      cases hn with
      | cons hy hn =>
      cases hn
      split at h
      · rename_i kt et ht
        obtain ⟨r, rfl, hd⟩ := Et (φ := fun w' => K (.tuple #[]) w') h hr hx hy fun s' w' hk r1 l1 => hK.of hk (Le.refl ρ) r1 (.aY .nil) l1
        unfold aG
        dsimp only
        rw [ht]
        exact hd
      · cases h
    · cases h
  · cases h
end
end Gp.Rn
end
section
namespace Gp.Rn
open Go Gp
section
variable {lp : Bool} {w0 w : World} {ρ ρ0 : Nm} {s : St} {P : Program} {k : AV -> St -> Bool} {K : Value -> World -> Prop} {cb : Cb}
theorem Gg {o : Oper} {α : Operand -> AV} {β : Operand -> Value} (hcb : qA lp P w0 ρ0 cb) (h : opC P cb o.op o.type α s k = true) (hl : Le ρ0 ρ) (hr : Rel w0 ρ s w) (hab : ∀ x ∈ o.op.operands.toList, VR ρ (α x) (β x)) (hK : KK lp w0 ρ s w k K) : dF P o β w K := by
  unfold dF
  generalize hop : o.op = op at h hab ⊢
  unfold opC at h
  cases op with
  | move x => exact hK.pure hr h (hab x (by simp [Op.operands]))
  | assign x => exact hK.pure hr h (hab x (by simp [Op.operands]))
  | pick c a b => exact BA h hr (hab c (by simp [Op.operands])) (hab a (by simp [Op.operands])) (hab b (by simp [Op.operands])) hK
  | alloc e => exact z_ h hr hK
  | box e x => exact Eh h hr (hab x (by simp [Op.operands])) hK
  | build t ps => exact zY h (AY.of fun x hx => hab x.2 (by simp only [Op.operands]; exact List.mem_map_of_mem hx)) (hK.kp hr)
  | buildSlice t n ps =>
    have := xO h hr (AY.of fun x hx => hab x.2 (by simp only [Op.operands]; exact List.mem_map_of_mem hx)) hK
    rw [List.map_map] at this
    exact this
  | load t x => exact GY h hr (hab x (by simp [Op.operands])) hK
  | store t x y => exact FW h hr (hab x (by simp [Op.operands])) (hab y (by simp [Op.operands])) hK
  | nilCheck x =>
    have hx := hab x (by simp [Op.operands])
    unfold Jt at h
    dsimp only at h ⊢
    split at h
    · rename_i i a ha
      rw [ha] at hx
      generalize β x = v at hx
      cases hx with
      | ptr hx => exact ⟨_, rfl, hK.pure hr h (.ptr hx)⟩
    · cases h
  | binOp op t x y yt =>
    have hx := hab x (by simp [Op.operands])
    have hy := hab y (by simp [Op.operands])
    have h' : Eb P op t α x y (fun v => k v s) = true := h
    unfold Eb at h'
    split at h'
    · exact Bd h' hx hy (hK.kp hr)
    · rename_i hn
      have q := Ef h' hx hy (hK.kp hr)
      dsimp only
      split
      · exact (hn rfl).elim
      · exact q
  | makeInterface t x =>
    have hx := hab x (by simp [Op.operands])
    have h' : D_ P t (α x) (fun v => k v s) = true := h
    unfold D_ at h'
    dsimp only
    split at h'
    · cases h'
    · rename_i d hd ht
      have q := hK.pure hr h' (.ifc t hx)
      rw [ht]
      cases d <;> first | exact (hd _ rfl).elim | exact q
    · cases h'
  | typeAssert x xt t ok => exact FV h (hab x (by simp [Op.operands])) (hK.kp hr)
  | unOp op t x => exact GV h (hab x (by simp [Op.operands])) (hK.kp hr)
  | convert sd d x =>
    have := Bv h hr (hab x (by simp [Op.operands])) hK
    exact this
  | makeFunc fn first cap =>
    unfold Gj at h
    dsimp only at h ⊢
    split at h
    · exact hK.pure hr h (.fn _ (bf.map fun x hx => hab x (by simp [Op.operands]; exact .inl (by simpa using hx))) (bf.map fun x hx => hab x (by simp [Op.operands]; exact .inr (by simpa using hx))))
    · cases h
  | lookup t x i c =>
    have := CX h hr (hab x (by simp [Op.operands])) (hab i (by simp [Op.operands])) hK
    cases c with
    | true => exact this
    | false => exact this
  | mapUpdate t x i v =>
    unfold Hf at h
    dsimp only at h ⊢
    split at h
    · rename_i kt et ht
      obtain ⟨r, hr1, hm⟩ := Em (φ := fun w' => K undef w') h hr (hab x (by simp [Op.operands])) (hab i (by simp [Op.operands])) (hab v (by simp [Op.operands])) fun s' w' hk r1 l1 => hK.of hk (Le.refl ρ) r1 (.aY .nil) l1
      rw [ht, hr1]
      exact hm
    · cases h
  | mapEntry t x i => exact BZ h hr (hab x (by simp [Op.operands])) (hab i (by simp [Op.operands])) hK
  | entryStore t x st v => exact Fh h hr (hab x (by simp [Op.operands])) (hab st (by simp [Op.operands])) (hab v (by simp [Op.operands])) hK
  | makeMap t r =>
    cases r with
    | some r => cases h
    | none =>
      dsimp only at h ⊢
      unfold GI at h
      obtain ⟨i, s', h, q0, q1, q2⟩ := bI h
      obtain ⟨r1, r2, r3⟩ := hr.alloc (x := ⟨w.heap.size, 0, fun _ _ _ => False⟩) (o := .map #[] 0) q0 q1 q2 rfl fun ρ' _ _ => ⟨[], World.alloc_heap_new w _, .nil⟩
      exact hK.of h r2 r1 (VR.map (aK ρ i _)) r3
  | makeSlice t l c =>
    have hx := hab l (by simp [Op.operands])
    have hy := hab c (by simp [Op.operands])
    unfold F6 at h
    dsimp only at h ⊢
    split at h
    · rename_i e k1 n k2 m ht h1 h2
      rw [h1] at hx
      rw [h2] at hy
      rw [ht]
      generalize β l = v1 at hx
      generalize β c = v2 at hy
      cases hx
      cases hy
      dsimp only
      split at h
      · rename_i size bytes z hs hb hz
        obtain ⟨zs, z1, z2⟩ := dD (ρ := ρ) hz
        rw [hs, hb, z1]
        dsimp only
        obtain ⟨g, h⟩ := aj h
        rw [Bool.and_eq_true, Bool.and_eq_true, Bool.and_eq_true] at g
        obtain ⟨g1, g2, g3, g4⟩ := g
        rw [z2.len] at g1
        rw [g1, cond_true]
        have g2 := Nat.le_of_ble_eq_true g2
        have g3 := Nat.le_of_ble_eq_true g3
        have g4 := Nat.le_of_ble_eq_true g4
        obtain ⟨i, s', h, q0, q1, q2⟩ := bI h
        obtain ⟨r1, r2, r3⟩ := hr.jS (z2.rep m) q0 q1 q2 e
        refine ⟨Int.natCast_nonneg _, ?_, ?_, ?_, hK.of h r2 r1 (VR.sl (aK ρ i _)) r3⟩
        · show (n : Int) <= (m : Int)
          omega
        · show (m : Int) <= 2 ^ 62
          omega
        · show (bytes : Int) * (m : Int) <= 2 ^ 48
          omega
      · cases h
    · cases h
  | slice t x lo hi mx =>
    refine zZ h hr (hab x (by simp [Op.operands])) (fun o ho => hab o ?_) (fun o ho => hab o ?_) (fun o ho => hab o ?_) (hK.kp hr)
    · subst ho; simp [Op.operands]
    · subst ho; simp [Op.operands]
    · subst ho; simp [Op.operands]
  | fieldAddr t x f => exact F9 h (hab x (by simp [Op.operands])) (hK.kp hr)
  | field t x f => exact G5 h (hab x (by simp [Op.operands])) (hK.kp hr)
  | indexAddr t x i => exact Gv h (hab x (by simp [Op.operands])) (hab i (by simp [Op.operands])) (hK.kp hr)
  | index t x i => exact FX h (hab x (by simp [Op.operands])) (hab i (by simp [Op.operands])) (hK.kp hr)
  | extract t i => exact He h (hab t (by simp [Op.operands])) (hK.kp hr)
  | range t x => exact Ht h hr (hab x (by simp [Op.operands])) hK
  | next x b =>
    cases b with
    | true => cases h
    | false => exact Cj h hr (hab x (by simp [Op.operands])) hK
  | entry x => exact zS h hr (hab x (by simp [Op.operands])) (hK.kp hr)
  | call c =>
    have hargs : bf ρ (c.args.toList.map α) (c.args.toList.map β) := bf.map fun x hx => hab x (by simp [Op.operands, Call.operands]; exact .inr (by simpa using hx))
    unfold Jo at h
    dsimp only at h ⊢
    split at h
    · rename_i x hc
      have hx : VR ρ (α x) (β x) := hab x (by simp [Op.operands, Call.operands, hc])
      rw [hc]
      split at h
      · rename_i f
        obtain ⟨sh, h1, h2, h3⟩ := DU hcb h hl hr hargs hK
        dsimp only
        rw [h1]
        dsimp only
        rw [h2, cond_true]
        exact h3
      · rename_i y hn
        obtain ⟨sh, h1, h3⟩ := Gu hcb h hl hr hx hargs hK
        cases x with
        | func f => exact absurd rfl (hn f)
        | _ =>
          dsimp only
          rw [h1]
          exact h3
    · rename_i b hc
      rw [hc]
      exact FT h hr hargs hK
    · rename_i x name hc
      have hx : VR ρ (α x) (β x) := hab x (by simp [Op.operands, Call.operands, hc])
      rw [hc]
      dsimp only
      unfold Jv at h
      split at h
      · rename_i t v hv
        rw [hv] at hx
        split at h
        · rename_i d f hd hm
          obtain ⟨hp, h⟩ : mQ d = false ∧ Hw P cb _ f (v :: _) s k = true := by
            cases hq : mQ d with
            | true => rw [hq] at h; cases h
            | false => rw [hq] at h; exact ⟨rfl, h⟩
          generalize β x = bx at hx
          cases hx with
          | ifc _ hx =>
          obtain ⟨sh, h1, h2, h3⟩ := DU hcb h hl hr (.cons hx hargs) hK
          rw [h1]
          dsimp only
          unfold Fa
          dsimp only
          rw [hd, hm]
          dsimp only
          rw [hp, h2]
          exact h3
        · cases h
      · cases h
  | _ => cases h
end
end Gp.Rn
end
section
namespace Gp.Rn
open Go Gp
theorem mO (s : St) (b : AB) : iT s b (fun _ _ => false) = false := by
  cases h : iT s b (fun _ _ => false) with
  | false => rfl
  | true => obtain ⟨_, _, g, _⟩ := bI h; cases g
theorem iD (s : St) (i : Nat) (b : AB) : iI s i b (fun _ => false) = false := by
  cases h : iI s i b (fun _ => false) with
  | false => rfl
  | true => obtain ⟨_, g, _⟩ := bU h; cases g
theorem Gl (cs : List AV) (o : Nat) (vs : List AV) : wO cs o vs (fun _ => false) = false := by
  cases h : wO cs o vs (fun _ => false) with
  | false => rfl
  | true => obtain ⟨_, g, _⟩ := oO h; cases g
theorem uG (n : Nat) : fN n (fun _ => false) = false := by cases n <;> rfl
theorem Ci (n : Int) : fI n (fun _ => false) = false := by cases n <;> exact uG _
theorem BQ (n : Bool) : fB n (fun _ => false) = false := by cases n <;> rfl
theorem aB (a : Bool) : cond a false false = false := by cases a <;> rfl
theorem Cm (s : St) (i o : Nat) (vs : List AV) : AZ s i o vs (fun _ => false) = false := by
  unfold AZ
  split <;> simp only [iD, Gl, aB]
theorem GZ (size bytes zl : Nat) (x : AV) (n : Nat) (vs : List AV) (s : St) : sV size bytes zl x n vs s (fun _ _ => false) = false := by
  unfold sV
  simp only [mO, Cm, iD, aB, uG]
  repeat' split
  all_goals simp only [aB, uG]
  all_goals (repeat' split)
  all_goals simp only [aB, uG]
theorem G7 (op : BinOp) (kd : IntKind) (a b : Int) : Dy op kd a b (fun _ => false) = false := by
  cases op <;> simp only [Dy, Ci, BQ, aB]
theorem Gn (op : BinOp) (a b : ByteArray) : Ce op a b (fun _ => false) = false := by
  cases op <;> simp only [Ce, BQ, aB]
theorem Gq (P : Program) (op : BinOp) (t : TypeId) (x y : AV) : Dc P op t x y (fun _ => false) = false := by
  unfold Dc
  simp only [Ci, BQ, G7, Gn, aB]
  repeat' split
  all_goals simp only [aB]
  all_goals (repeat' split)
  all_goals simp only [aB]
theorem I8 (op : UnOp) (x : AV) : Iq op x (fun _ => false) = false := by
  unfold Iq
  split <;> simp only [Ci, BQ]
theorem Gf (α : Operand -> AV) (x : Option Operand) (d : Int) : ni α x d (fun _ => false) = false := by
  unfold ni
  repeat' split
  all_goals rfl
theorem Gi (x : AV) (size : Nat) (l h : Int) (s : St) : BK x size l h s (fun _ => false) = false := by
  unfold BK
  simp only [uG, aB]
  repeat' split
  all_goals simp only [aB]
  all_goals (repeat' split)
  all_goals simp only [aB]
theorem Ee (x : AV) (size : Nat) (l h m : Int) (s : St) : vX x size l h m s (fun _ => false) = false := by
  unfold vX
  simp only [uG, aB]
  repeat' split
  all_goals simp only [aB]
theorem Di (P : Program) (t : TypeId) (x : AV) (α : Operand -> AV) (lo hi mx : Option Operand) (s : St) : pV P t x α lo hi mx s (fun _ => false) = false := by
  unfold pV
  simp only [uG, aB, Gf, Gi, Ee]
  repeat' split
  all_goals simp only [aB]
  all_goals (repeat' split)
  all_goals simp only [aB]
theorem EH (P : Program) (a b : TypeId) (x : AV) (s : St) : vw P a b x s (fun _ _ => false) = false := by
  unfold vw
  simp only [mO, aB, Ci]
  repeat' split
  all_goals rfl
theorem D7 (d : TypeDesc) (size off : Nat) (cs : List AV) : rF d size off cs (fun _ => false) = false := by
  unfold rF
  split <;> simp only [aB]
theorem GK (P : Program) (kt : TypeId) (m key z : AV) (s : St) : AU P kt m key z s (fun _ _ => false) = false := by
  unfold AU
  repeat' split
  all_goals rfl
theorem Gy (P : Program) (kt : TypeId) (m key v : AV) (s : St) : CS P kt m key v s (fun _ => false) = false := by
  unfold CS
  simp only [iD]
  repeat' split
  all_goals simp only [aB]
  all_goals (repeat' split)
  all_goals simp only [aB]
theorem Hl (P : Program) (kt : TypeId) (m key : AV) (s : St) : BO P kt m key s (fun _ => false) = false := by
  unfold BO
  simp only [iD]
  repeat' split
  all_goals rfl
theorem EX (x : AV) (s : St) : vY x s (fun _ _ => false) = false := by
  unfold vY
  simp only [iD]
  repeat' split
  all_goals simp only [aB]
  all_goals (repeat' split)
  all_goals simp only [aB]
theorem Bo (x : AV) (s : St) : pJ x s (fun _ => false) = false := by
  unfold pJ
  repeat' split
  all_goals simp only [aB]
  all_goals (repeat' split)
  all_goals simp only [aB]
theorem zq (mx : Bool) : ∀ (r : List AV) (x : Int) (kd : IntKind), pX mx x r kd (fun _ => false) = false
  | [], x, kd => Ci _
  | a :: r, x, kd => by
    unfold pX
    split
    · rename_i he; cases he
    · rename_i he; cases he; exact zq mx _ _ _
    · rfl
theorem I5 (P : Program) (b : Builtin) (ts : List TypeId) (args : List AV) (s : St) : Il P b ts args s (fun _ _ => false) = false := by
  unfold Il
  simp only [uG, zq, GZ, Cm, Hl, aB]
  repeat' split
  all_goals simp only [aB]
  all_goals (repeat' split)
  all_goals simp only [aB]
structure Jr (cb : Cb) : Prop where
  call : ∀ f args s, cb.call f args s (fun _ _ => false) = false
  yld : ∀ l args s, cb.yld l args s (fun _ _ => false) = false
theorem IK : Jr cb0 := ⟨fun _ _ _ => rfl, fun _ _ _ => rfl⟩
section
variable (P : Program) {cb : Cb} (hcb : Jr cb)
 include hcb
theorem Ik (ty : TypeId) (α : Operand -> AV) (c : Callee) (ts : List TypeId) (args : List AV) (s : St) : Jo P cb ty α c ts args s (fun _ _ => false) = false := by
  unfold Jo Jv Hw Jl
  simp only [I5, aB, hcb.call, hcb.yld]
  repeat' split
  all_goals simp only [aB]
theorem IY (op : Op) (ty : TypeId) (α : Operand -> AV) (s : St) : opC P cb op ty α s (fun _ _ => false) = false := by
  cases op
  case call c => exact Ik P hcb ..
  case makeMap t r => cases r <;> simp only [opC, GI, mO]
  case next x b => cases b <;> simp only [opC, EX]
  all_goals simp only [opC, yU, sO, Eo, t_, oI, I_, Ja, Jt, Gj, yV, Hf, zA, Fp, F6, Jg, Jd, Je, Jf, Jh, Jc, Eb, yI, D_, Jb, BQ, mO, iD, Cm, Gq, I8, EH, GK, Gy, Di, D7, Bo, uG, aB]
  all_goals (repeat' split)
  all_goals simp only [aB]
  all_goals (repeat' split)
  all_goals simp only [aB]
theorem mF (nt : Nat) (ops : List Oper) (o : Oper) (e : AE) (s : St) : kJ P cb nt ops o e s (fun _ _ => false) = false := by
  unfold kJ vT
  simp only [IY P hcb, aB]
  repeat' split
  all_goals simp only [aB]
  all_goals (repeat' split)
  all_goals simp only [aB]
theorem yD (nt : Nat) (ops : List Oper) : ∀ (l : List Oper) (e : AE) (s : St), Af P cb nt ops l e s (fun _ _ => false) = false
  | [], _, _ => rfl
  | o :: r, e, s => by
    rw [opsC_cons]
    simp only [yD nt ops r, mF P hcb]
theorem ED {nt : Nat} {ops : List Oper} {pbs : List Nat} {prev : Ew} (hp : ∀ a b c d e s, prev a b c d e s (fun _ _ _ => false) = false) (l acc : List (Nat × Nat)) (done : List Nat) (ld : List (Nat × Shape × AV × AV)) (e : AE) (s : St) (x : Nat × Oper) (r : List (Nat × Oper)) :
    kG P cb nt ops pbs prev l acc done ld e s (fun _ _ _ => false) (x :: r) = false := by
  unfold kG
  simp only [hp, aB, mF P hcb, Bool.false_and]
theorem sQ (nt : Nat) (ops : List Oper) (pbs : List Nat) : ∀ (n : Nat) (rp : Option (List (Nat × Nat))) (acc : List (Nat × Nat)) (done : List Nat) (ld : List (Nat × Shape × AV × AV)) (e : AE) (s : St), qM P cb nt ops pbs n rp acc done ld e s (fun _ _ _ => false) = false
  | 0, _, _, _, _, _, _ => rfl
  | n + 1, rp, acc, done, ld, e, s => by
    have ih := sQ nt ops pbs n
    show qg P cb nt ops pbs (qM P cb nt ops pbs n) rp acc done ld e s (fun _ _ _ => false) = false
    generalize qM P cb nt ops pbs n = prev at ih
    unfold qg CW
    split
    · rename_i i o hne
      refine Eq.trans (congrArg (kJ P cb nt ops o e s) (funext fun e' => funext fun s' => ?_)) (mF P hcb nt ops o e s)
      split
      · exact ih ..
      · rfl
    · split
      · exact aB _
      · split
        · simp only [Bool.and_false, ih, aB, mF P hcb]
        · exact ED P hcb ih ..
end
end Gp.Rn
end
section
namespace Gp.Rn
open Go Gp
def KE (lp : Bool) (w0 : World) (ρ : Nm) (s : St) (w : World) (k : AE -> St -> Bool) (K : Env -> World -> Prop) : Prop :=
  ∀ e' s', k e' s' = true -> ∀ ρ' w' env', Le ρ ρ' -> Rel w0 ρ' s' w' -> ER ρ' e' env' -> (lp = true -> Lp ρ s w s' w') -> K env' w'
section
variable {lp : Bool} {w0 : World} {ρ0 : Nm} {P : Program} {cb : Cb} {nt : Nat}
theorem vF {g : Bool} {v : Value} {K : Value -> Prop} (h : K v) : split g v K := by
  unfold split
  cases g with
  | false => exact h
  | true =>
    cases v with
    | bool b => cases b <;> exact h
    | _ => exact h
theorem vN (hcb : qA lp P w0 ρ0 cb) {o : Oper} {g : Bool} {e : AE} {env : Env} {s : St} {w : World} {ρ : Nm} {k : AE -> St -> Bool} {K : Env -> World -> Prop} (h : vT P cb nt o e s k = true) (hl : Le ρ0 ρ) (hr : Rel w0 ρ s w) (he : ER ρ e env) (hK : KE lp w0 ρ s w k K) : dh P nt o g env w K := by
  unfold vT at h
  split at h
  · rename_i x hm
    split at h
    · rename_i v hv
      obtain ⟨hd, h⟩ := aj h
      obtain ⟨u, h1, h2⟩ := qh he hv
      have hfin : split g (ev env x) (fun v' => K (env.put o.dst v') w) := vF (by
        have : ev env x = u := by unfold ev; rw [h1]; rfl
        rw [this]
        exact hK _ _ h ρ w _ (Le.refl ρ) hr (he.put o.dst h2) fun _ => Lp.refl ρ s w)
      have hdf : oq env [x] = true := by unfold oq; rw [h1]; rfl
      unfold dh dF
      generalize hop : o.op = op at hm
      cases op <;> first | (cases hm) | skip
      · show cond (oq env [x] && bH nt o.dst) _ _
        rw [hdf, hd, Bool.and_self, cond_true]
        exact hfin
      · show cond (oq env [x] && bH nt o.dst) _ _
        rw [hdf, hd, Bool.and_self, cond_true]
        exact hfin
    · cases h
  · obtain ⟨hd, h⟩ := aj h
    split at h
    · rename_i as has
      obtain ⟨h1, h2⟩ := BH he has
      unfold dh
      rw [h1, hd, Bool.and_self, cond_true]
      exact Gg hcb h hl hr h2 fun v s' hk ρ' w' v' l' r' hv p' => vF (hK _ _ hk ρ' w' _ l' r' ((he.mono l').put o.dst hv) p')
    · cases h
theorem lQ (hcb : qA lp P w0 ρ0 cb) {ops : List Oper} {o : Oper} {g : Bool} {e : AE} {env : Env} {s : St} {w : World} {ρ : Nm} {k : AE -> St -> Bool} {K : Env -> World -> Prop} (h : kJ P cb nt ops o e s k = true) (hl : Le ρ0 ρ) (hr : Rel w0 ρ s w) (he : ER ρ e env) (hK : KE lp w0 ρ s w k K) : bD P nt ops o g env w K := by
  unfold kJ at h
  unfold bD
  split at h
  · rename_i hg
    rw [hg]
    exact vN hcb h hl hr he hK
  · rename_i j want hg
    rw [hg]
    dsimp only
    split at h
    · rename_i d hd
      rw [hd]
      dsimp only
      split at h
      · rename_i t ht
        obtain ⟨u, h1, h2⟩ := he d _ ht
        cases h2
        rw [h1]
        dsimp only
        cases hw : (t == want) with
        | true => rw [hw, cond_true] at h; exact vN hcb h hl hr he hK
        | false =>
          rw [hw, cond_false] at h
          obtain ⟨h3, h⟩ := aj h
          rw [cond_false, h3, cond_true]
          exact hK _ _ h ρ w _ (Le.refl ρ) hr (he.put o.dst (.aY .nil)) fun _ => Lp.refl ρ s w
      · rename_i vs ht
        obtain ⟨u, h1, h2⟩ := he d _ ht
        cases h2
        rw [h1]
        dsimp only
        obtain ⟨h3, h⟩ := aj h
        rw [h3, cond_true]
        exact hK _ _ h ρ w _ (Le.refl ρ) hr (he.put o.dst (.aY .nil)) fun _ => Lp.refl ρ s w
      · cases h
    · cases h
theorem KE.step {ρ ρ' : Nm} {s s' : St} {w w' : World} {k : AE -> St -> Bool} {K : Env -> World -> Prop} (hK : KE lp w0 ρ s w k K) (l : Le ρ ρ') (p : lp = true -> Lp ρ s w s' w') : KE lp w0 ρ' s' w' k K :=
  fun e1 s1 h ρ1 w1 env1 l1 r1 he p1 => hK e1 s1 h ρ1 w1 env1 (l.trans l1) r1 he fun hl => (p hl).trans (p1 hl) l
theorem tH (hcb : qA lp P w0 ρ0 cb) {ops : List Oper} {k : AE -> St -> Bool} {K : Env -> World -> Prop} : ∀ {l : List Oper} {i : Nat} {e : AE} {env : Env} {s : St} {w : World} {ρ : Nm}, Af P cb nt ops l e s k = true -> Le ρ0 ρ -> Rel w0 ρ s w -> ER ρ e env -> KE lp w0 ρ s w k K -> qc P nt ops i l env w K
  | [], i, e, env, s, w, ρ, h, hl, hr, he, hK => hK _ _ h ρ w env (Le.refl ρ) hr he fun _ => Lp.refl ρ s w
  | o :: r, i, e, env, s, w, ρ, h, hl, hr, he, hK => by
    rw [opsC_cons] at h
    unfold qc
    exact lQ hcb h hl hr he fun e' s' hk ρ' w' env' l' r' he' p' => tH hcb hk (hl.trans l') r' he' (hK.step l' p')
def FC (ρ : Nm) (ld : List (Nat × Shape × AV × AV)) (ld' : List (Nat × Shape × Value × Value)) : Prop := ∀ i sh a v, (i, sh, a, v) ∈ ld' -> ∃ b u, (i, sh, b, u) ∈ ld ∧ VR ρ b a ∧ VR ρ u v
theorem FC.mono {ρ ρ' : Nm} {ld : List (Nat × Shape × AV × AV)} {ld' : List (Nat × Shape × Value × Value)} (h : FC ρ ld ld') (hl : Le ρ ρ') : FC ρ' ld ld' := fun i sh a v hm => by
  obtain ⟨b, u, h1, h2, h3⟩ := h i sh a v hm
  exact ⟨b, u, h1, h2.mono hl, h3.mono hl⟩
theorem lq {a : Addr} {w : World} {rest : Prop} : ∀ (vs : List Value) (i : Nat), (∀ j, j < vs.length -> w.cell? (a.add (i + j)) = vs[j]?) -> rest -> fZ vs w a i rest
  | [], _, _, h => h
  | v :: vs, i, hc, h => ⟨by have := hc 0 (by simp); simpa using this, lq vs (i + 1) (fun j hj => by
      have := hc (j + 1) (by simpa using hj)
      rw [show i + 1 + j = i + (j + 1) by omega]
      simpa using this) h⟩
theorem zG {ρ : Nm} {s : St} {w : World} {sh : Shape} {a u : AV} {a' u' : Value} {rest : Prop} (h : uI sh a u s = true) (hr : Rel w0 ρ s w) (ha : VR ρ a a') (hu : VR ρ u u') (hp : rest) : iQ sh a' u' w rest := by
  unfold uI at h
  split at h
  · rename_i kd i o
    cases ha with
    | ptr hx =>
    split at h
    · rename_i v hv
      obtain ⟨us, g1, g2, g3, _⟩ := ji hr hx hv
      cases g1 with
      | cons g g' =>
      cases g'
      obtain ⟨rfl, hd⟩ := iw _ _ h
      have := g3 0 (by simp)
      rw [aJ] at this
      refine ⟨?_, hp⟩
      rw [hd ρ _ _ hu g]
      exact this
    · cases h
  · rename_i ks i o
    cases ha with
    | ptr hx =>
    split at h
    · rename_i vs
      cases hu with
      | agg hu =>
      split at h
      · rename_i us hv
        obtain ⟨us', g1, g2, g3, _⟩ := ji hr hx hv
        obtain ⟨rfl, hd⟩ := dS _ _ h
        have := hd ρ _ _ hu g1
        subst this
        exact lq _ 0 (fun j hj => by rw [Nat.zero_add]; exact g3 j hj) hp
      · cases h
    · cases h
  · cases h
theorem kX {pb : Nat} {s : St} : ∀ {ld : List (Nat × Shape × AV × AV)}, kM pb s ld = true -> ∀ i sh a u, (i, sh, a, u) ∈ ld -> Nat.testBit pb i = false -> uI sh a u s = true
  | [], _, _, _, _, _, hm, _ => by cases hm
  | (j, sh', b, v) :: ld, h, i, sh, a, u, hm, hb => by
    unfold kM at h
    cases ht : Nat.testBit pb j with
    | true =>
      rw [ht, cond_true] at h
      rcases List.mem_cons.1 hm with e | hm
      · cases e; rw [ht] at hb; cases hb
      · exact kX h i sh a u hm hb
    | false =>
      rw [ht, cond_false, Bool.and_eq_true] at h
      rcases List.mem_cons.1 hm with e | hm
      · cases e; exact h.1
      · exact kX h.2 i sh a u hm hb
theorem oU {pb : Nat} {s : St} {w : World} {ρ : Nm} {ld : List (Nat × Shape × AV × AV)} {rest : Prop} (h : kM pb s ld = true) (hr : Rel w0 ρ s w) (hp : rest) : ∀ {ld' : List (Nat × Shape × Value × Value)}, FC ρ ld ld' -> lM pb w ld' rest
  | [], _ => hp
  | (i, sh, a, v) :: ld', hl => by
    have ih := oU h hr hp (ld' := ld') fun i sh a v hm => hl i sh a v (List.mem_cons_of_mem _ hm)
    unfold lM
    cases ht : Nat.testBit pb i with
    | true => exact ih
    | false =>
      obtain ⟨b, u, h1, h2, h3⟩ := hl i sh a v (List.mem_cons_self ..)
      exact zG (kX h i sh b u h1 ht) hr h2 h3 ih
theorem Dp {ops : List Oper} {i : Nat} {o : Oper} {e e' : AE} {env env' : Env} {ρ ρ' : Nm} {ld ld1 : List (Nat × Shape × AV × AV)} {ld' : List (Nat × Shape × Value × Value)} (h : CQ P ops i o e e' ld = some ld1) (hl : Le ρ ρ') (he : ER ρ e env) (he' : ER ρ' e' env') (hd : FC ρ ld ld') : FC ρ' ld1 (jr P ops i o env env' ld') := by
  unfold CQ at h
  unfold jr
  split at h
  · rename_i t x d ho hdst
    rw [ho, hdst]
    dsimp only
    cases hg : kS ops o env with
    | false =>
      rw [cond_false]
      cases hc : yL ops o e with
      | false => rw [hc, cond_false] at h; cases h; exact hd.mono hl
      | true =>
        rw [hc, cond_true] at h
        split at h
        · split at h
          · cases h
            intro j sh a v hm
            obtain ⟨b, u, h1, h2⟩ := (hd.mono hl) j sh a v hm
            exact ⟨b, u, List.mem_cons_of_mem _ h1, h2⟩
          · cases h
        · cases h; exact hd.mono hl
    | true =>
      have hc : yL ops o e = true := by
        unfold kS at hg
        unfold yL
        split
        · rfl
        · rename_i j want hgd
          rw [hgd] at hg
          dsimp only at hg
          split
          · rename_i d' hd'
            rw [hd'] at hg
            dsimp only at hg
            split
            · rename_i b hb
              obtain ⟨u, h1, h2⟩ := he _ _ hb
              cases h2
              rw [h1] at hg
              exact hg
            · rename_i vs hb
              obtain ⟨u, h1, h2⟩ := he _ _ hb
              cases h2
              rw [h1] at hg
              cases hg
            · rfl
          · rfl
      rw [hc, cond_true] at h
      rw [cond_true]
      split at h
      · rename_i sh hs
        rw [hs]
        dsimp only
        split at h
        · rename_i a v ha hv
          cases h
          obtain ⟨a', g1, g2⟩ := qh he ha
          obtain ⟨v', g3, g4⟩ := he' _ _ hv
          have e1 : ev env x = a' := by unfold ev; rw [g1]; rfl
          have e2 : ev env' (.tmp d) = v' := by show (env'.get d).getD undef = v'; rw [g3]; rfl
          rw [e1, e2]
          intro j sh' b u hm
          rcases List.mem_cons.1 hm with e | hm
          · cases e
            exact ⟨a, v, List.mem_cons_self .., g2.mono hl, g4⟩
          · obtain ⟨b', u', h1, h2⟩ := (hd.mono hl) j sh' b u hm
            exact ⟨b', u', List.mem_cons_of_mem _ h1, h2⟩
        · cases h
      · rename_i hs
        cases h
        rw [hs]
        exact hd.mono hl
  · rename_i hn
    cases h
    split
    · rename_i t x d h1 h2
      exact absurd h2 (hn t x d h1)
    · exact hd.mono hl
theorem uT {α : Type} {f : α -> Prop} : ∀ {l : List α}, (∀ x ∈ l, f x) -> allOf f l
  | [], _ => trivial
  | [x], h => h x (List.mem_cons_self ..)
  | x :: y :: l, h => ⟨h x (List.mem_cons_self ..), uT fun z hz => h z (List.mem_cons_of_mem _ hz)⟩
theorem yG : ∀ {a b : List (AV × AV × Nat)}, Ez a b = true -> a = b
  | [], [], _ => rfl
  | [], _ :: _, h => by cases h
  | _ :: _, [], h => by cases h
  | (a, b, n) :: l, (a', b', n') :: l', h => by
    unfold Ez at h
    rw [Bool.and_eq_true, Bool.and_eq_true, Bool.and_eq_true] at h
    rw [(iw _ _ h.1).1, (iw _ _ h.2.1).1, Nat.eq_of_beq_eq_true h.2.2.1, yG h.2.2.2]
theorem zy : ∀ {a b : List Nat}, EZ a b = true -> a = b
  | [], [], _ => rfl
  | [], _ :: _, h => by cases h
  | _ :: _, [], h => by cases h
  | a :: l, b :: l', h => by
    unfold EZ at h
    rw [Bool.and_eq_true] at h
    rw [Nat.eq_of_beq_eq_true h.1, zy h.2]
theorem zh {a b : AB} (h : xY a b = true) : a = b := by
  cases a with
  | row cs z p =>
    cases b <;> first | cases h | skip
    unfold xY at h
    rw [Bool.and_eq_true, Bool.and_eq_true] at h
    rw [(dS _ _ h.1).1, Nat.eq_of_beq_eq_true h.2.1]
    have : ∀ a b : Bool, JC a b = true -> a = b := by intro a b; cases a <;> cases b <;> intro h <;> first | rfl | cases h
    rw [this _ _ h.2.2]
  | map es c =>
    cases b <;> first | cases h | skip
    unfold xY at h
    rw [Bool.and_eq_true] at h
    rw [yG h.1, Nat.eq_of_beq_eq_true h.2]
  | iter m a l c =>
    cases b <;> first | cases h | skip
    unfold xY at h
    rw [Bool.and_eq_true, Bool.and_eq_true, Bool.and_eq_true] at h
    have : ∀ a b : Option Nat, Jy a b = true -> a = b := by
      intro a b h
      cases a <;> cases b <;> first | rfl | cases h | skip
      rw [Nat.eq_of_beq_eq_true h]
    rw [this _ _ h.1, Nat.eq_of_beq_eq_true h.2.1, zy h.2.2.1, Nat.eq_of_beq_eq_true h.2.2.2]
  | loop st j =>
    cases b <;> first | cases h | skip
    unfold xY at h
    rw [Bool.and_eq_true] at h
    have h1 : ∀ a b : LoopState, IW a b = true -> a = b := by intro a b; cases a <;> cases b <;> intro h <;> first | rfl | cases h
    have h2 : ∀ a b : GL, Hz a b = true -> a = b := by
      intro a b h
      cases a <;> cases b <;> first | rfl | cases h | skip
      unfold Hz at h
      rw [Nat.eq_of_beq_eq_true h]
    rw [h1 _ _ h.1, h2 _ _ h.2]
  | mark => cases b <;> first | rfl | cases h
  | dead => cases b <;> first | rfl | cases h
theorem oK : ∀ {a b : Tr}, qZ a b = true -> a = b
  | .lf, .lf, _ => rfl
  | .lf, .nd _ _ _, h => by cases h
  | .nd _ _ _, .lf, h => by cases h
  | .nd v l r, .nd v' l' r', h => by
    unfold qZ at h
    rw [Bool.and_eq_true, Bool.and_eq_true] at h
    rw [oK h.2.1, oK h.2.2]
    have h1 := h.1
    split at h1
    · rfl
    · rw [zh h1]
    · cases h1
theorem vG {e e' : AE} : ∀ {l : AE}, nP e e' l = true -> ∀ t v, (t, v) ∈ l -> ∃ a, e.get t = some a ∧ e'.get t = some a
  | [], _, _, _, hm => by cases hm
  | (t, v) :: r, h, u, x, hm => by
    unfold nP at h
    rw [Bool.and_eq_true] at h
    rcases List.mem_cons.1 hm with g | hm
    · cases g
      have h1 := h.1
      split at h1
      · rename_i a b ha hb
        have := (iw _ _ h1).1
        subst this
        exact ⟨a, ha, hb⟩
      · cases h1
    · exact vG h.2 u x hm
theorem AE.mem : ∀ {e : AE} {t : Nat} {v : AV}, e.get t = some v -> ∃ u, (t, u) ∈ e
  | [], t, v, h => by rw [AE.get_nil] at h; cases h
  | (s, u) :: e, t, v, h => by
    rw [AE.aI] at h
    split at h
    · rename_i hs
      subst hs
      exact ⟨u, List.mem_cons_self ..⟩
    · obtain ⟨u', hu⟩ := AE.mem h
      exact ⟨u', List.mem_cons_of_mem _ hu⟩
theorem ER.sub {ρ : Nm} {e e' : AE} {env : Env} (h : nP e e' e = true) (he : ER ρ e' env) : ER ρ e env := fun t v g => by
  obtain ⟨u, hu⟩ := AE.mem g
  obtain ⟨a, h1, h2⟩ := vG h t u hu
  rw [g] at h1
  cases h1
  exact he t v h2
def IB (lp : Bool) (w0 : World) (ρ : Nm) (s : St) (w : World) (k : KD) (K : Env -> World -> Prop) : Prop :=
  ∀ e' s' a, k e' s' a = true -> ∀ ρ' w' env', Le ρ ρ' -> Rel w0 ρ' s' w' -> ER ρ' e' env' -> (lp = true -> Lp ρ s w s' w') -> K env' w'
theorem IB.step {ρ ρ' : Nm} {s s' : St} {w w' : World} {k : KD} {K : Env -> World -> Prop} (hK : IB lp w0 ρ s w k K) (l : Le ρ ρ') (p : lp = true -> Lp ρ s w s' w') : IB lp w0 ρ' s' w' k K :=
  fun e1 s1 a h ρ1 w1 env1 l1 r1 he p1 => hK e1 s1 a h ρ1 w1 env1 (l.trans l1) r1 he fun hl => (p hl).trans (p1 hl) l
def IV (lp : Bool) (P : Program) (w0 : World) (ρ0 : Nm) (nt : Nat) (ops : List Oper) (pbs : List Nat) (n : Nat) (prev : Ew) : Prop :=
  ∀ rp acc done ld ld' e s k, prev rp acc done ld e s k = true -> ∀ ρ w env K, Le ρ0 ρ -> Rel w0 ρ s w -> ER ρ e env -> FC ρ ld ld' -> IB lp w0 ρ s w k K -> bT P nt ops pbs n done ld' env w K
theorem pF (hcb : qA lp P w0 ρ0 cb) {ops : List Oper} {pbs : List Nat} {n : Nat} {prev : Ew} (hp : IV lp P w0 ρ0 nt ops pbs n prev) {l acc : List (Nat × Nat)} {done : List Nat} {ld : List (Nat × Shape × AV × AV)} {ld' : List (Nat × Shape × Value × Value)} {e : AE} {s : St} {k : KD} {ρ : Nm} {w : World} {env : Env} {K : Env -> World -> Prop}
    (hl : Le ρ0 ρ) (hr : Rel w0 ρ s w) (he : ER ρ e env) (hd : FC ρ ld ld') (hK : IB lp w0 ρ s w k K) : ∀ {es : List (Nat × Oper)}, kG P cb nt ops pbs prev l acc done ld e s k es = true ->
      ∀ x ∈ es, bD P nt ops x.2 (lS ops x.1) env w fun env' w' => lM (pbs.getD x.1 0) w' ld' (bT P nt ops pbs n (x.1 :: done) ld' env' w' K)
  | [], _, x, hx => by cases hx
  | y :: r, h, x, hx => by
    unfold kG at h
    rw [Bool.and_eq_true] at h
    rcases List.mem_cons.1 hx with rfl | hx
    · refine lQ hcb h.1 hl hr.names he fun e' s' hk ρ' w' env' l' r' he' p' => ?_
      obtain ⟨h1, hk⟩ := aj hk
      exact oU h1 r' (hp _ _ _ _ _ _ _ _ hk ρ' w' env' K (hl.trans l') r' he' (hd.mono l') (hK.step l' p')) (hd.mono l')
    · exact pF hcb hp hl hr he hd hK h.2 x hx
theorem uX (hcb : qA lp P w0 ρ0 cb) (hcf : Jr cb) {ops : List Oper} {pbs : List Nat} : ∀ n, IV lp P w0 ρ0 nt ops pbs n (qM P cb nt ops pbs n)
  | 0 => fun rp acc done ld ld' e s k h => by cases h
  | n + 1 => by
    intro rp acc done ld ld' e s k h ρ w env K hl hr he hd hK
    have ih := uX hcb hcf (ops := ops) (pbs := pbs) n
    have ihf := sQ P hcf nt ops pbs n
    have h : qg P cb nt ops pbs (qM P cb nt ops pbs n) rp acc done ld e s k = true := h
    generalize qM P cb nt ops pbs n = prev at ih ihf h
    unfold bT
    unfold qg at h
    split at h
    · rename_i i o hne
      rw [hne]
      dsimp only
      refine lQ hcb h hl hr he fun e' s' hk ρ' w' env' l' r' he' p' => ?_
      split at hk
      · rename_i ld1 hld
        exact ih _ _ _ _ _ _ _ _ hk ρ' w' env' K (hl.trans l') r' he' (Dp hld l' he he' hd) (hK.step l' p')
      · cases hk
    · rename_i hne
      rw [hne]
      dsimp only
      split at h
      · rename_i hre
        rw [hre]
        dsimp only
        obtain ⟨h1, h⟩ := aj h
        rw [h1, cond_true]
        exact hK _ _ _ h ρ w env (Le.refl ρ) hr he fun _ => Lp.refl ρ s w
      · rename_i i o es hre
        rw [hre]
        dsimp only
        refine uT (f := fun (x : Nat × Oper) => bD P nt ops x.2 (lS ops x.1) env w fun env' w' => lM (pbs.getD x.1 0) w' ld' (bT P nt ops pbs n (x.1 :: done) ld' env' w' K)) fun x hx => ?_
        unfold CW at h
        split at h
        ·
          by_cases hQ : ∃ e0 s0 acc0, (kG P cb nt ops pbs prev acc0 [] done ld e s (fun e1 s1 _ => nP e0 e1 e0 && qZ s0.h s1.h) es && k e0 s0 acc0) = true
          · obtain ⟨e0, s0, acc0, hq⟩ := hQ
            rw [Bool.and_eq_true] at hq
            rcases List.mem_cons.1 hx with rfl | hx
            · refine lQ hcb h hl hr he fun e' s' hk ρ' w' env' l' r' he' p' => ?_
              obtain ⟨h1, hk⟩ := aj hk
              refine oU h1 r' (ih _ _ _ _ _ _ _ _ hk ρ' w' env' K (hl.trans l') r' he' (hd.mono l') ?_) (hd.mono l')
              intro e1 s1 a1 hk1
              rw [Bool.and_eq_true] at hk1
              exact (hK.step l' p') e1 s1 a1 hk1.2
            · refine pF hcb ih hl hr he hd ?_ hq.1 x hx
              intro e1 s1 a1 hk1 ρ1 w1 env1 l1 r1 he1 p1
              rw [Bool.and_eq_true] at hk1
              have hh := oK hk1.2
              have r2 : Rel w0 ρ1 ⟨s1.h, s0.n⟩ w1 := r1.names
              rw [<- hh] at r2
              refine hK e0 s0 acc0 hq.2 ρ1 w1 env1 l1 r2 (he1.sub hk1.1) fun hlp => ?_
              have := p1 hlp
              intro j y st p g1 g2
              obtain ⟨q1, q2⟩ := this j y st p g1 g2
              rw [<- hh] at q1
              exact ⟨q1, q2⟩
          · exfalso
            have hz : ∀ e0 s0 acc0, (kG P cb nt ops pbs prev acc0 [] done ld e s (fun e1 s1 _ => nP e0 e1 e0 && qZ s0.h s1.h) es && k e0 s0 acc0) = false := fun e0 s0 acc0 => by
              cases hb : (kG P cb nt ops pbs prev acc0 [] done ld e s (fun e1 s1 _ => nP e0 e1 e0 && qZ s0.h s1.h) es && k e0 s0 acc0) with
              | false => rfl
              | true => exact absurd ⟨e0, s0, acc0, hb⟩ hQ
            simp only [hz, ihf, aB, mF P hcf] at h
            cases h
        · exact pF hcb ih hl hr he hd hK h x hx
end
end Gp.Rn
end
section
namespace Gp.Rn
open Go Gp
def DR (ρ : Nm) : List Nat -> List Nat -> Prop
  | [], [] => True
  | i :: l, b :: m => (∃ x, ρ i = some x ∧ x.b = b) ∧ DR ρ l m
  | _, _ => False
theorem DR.mono {ρ ρ' : Nm} (hl : Le ρ ρ') : ∀ {l m : List Nat}, DR ρ l m -> DR ρ' l m
  | [], [], _ => trivial
  | i :: l, b :: m, h => by
    obtain ⟨⟨x, h1, h2⟩, h3⟩ := h
    exact ⟨⟨x, hl _ _ h1, h2⟩, DR.mono hl h3⟩
  | [], _ :: _, h => h.elim
  | _ :: _, [], h => h.elim
def RR (ρ : Nm) : Option Nat -> Option Nat -> Prop
  | none, none => True
  | some l, some b => ∃ x, ρ l = some x ∧ x.b = b
  | _, _ => False
theorem RR.mono {ρ ρ' : Nm} (hl : Le ρ ρ') {r r' : Option Nat} (h : RR ρ r r') : RR ρ' r r' := by
  cases r <;> cases r' <;> first | exact h | exact h.elim | skip
  obtain ⟨x, h1, h2⟩ := h
  exact ⟨x, hl _ _ h1, h2⟩
def FM (P : Program) (i : yZ) (env : Env) (l : Nat) (x' : qQ i.ks) (W : World) (Kb : Exit -> World -> Prop) : Prop :=
  den P i.nt i.assign (some l) i.x (lU i.ps (encR i.ks x') ++ env) [] W fun e env1 _ W1 => match e with
    | .normal => W1.heap[l]? = W.heap[l]? ∧ den P i.nt i.body (some l) i.y env1 [] (dX W1 l) fun e _ _ W2 => Kb e W2
    | _ => False
def YS (P : Program) (x : Loc) (i : yZ) (env : Env) : Prop := ∀ (xs : qQ i.ks) (W : World) (p : Option Code) (R : Bool -> World -> Prop), x.L .ready p W ->
  FM P i env x.b xs W (fun e W' => x.L .busy p W' ∧ ∃ j, mG e = some j ∧ R (dL e) (aS W' x.b (if dL e then .ready else .done) j)) -> kN P x.b (encR i.ks xs) W R
def GR (P : Program) (ρ : Nm) (Γ : jZ) : Prop := ∀ l i, Γ.get l = some i -> ∃ x env, ρ l = some x ∧ ER ρ i.env env ∧ YS P x i env
theorem GR.mono {P : Program} {ρ ρ' : Nm} {Γ : jZ} (h : GR P ρ Γ) (hl : Le ρ ρ') : GR P ρ' Γ := fun l i g => by
  obtain ⟨x, env, h1, h2, h3⟩ := h l i g
  exact ⟨x, env, hl _ _ h1, h2.mono hl, h3⟩
def FZ (w0 : World) (ρ : Nm) (k : KC) (K : Exit -> Env -> List Nat -> World -> Prop) : Prop :=
  ∀ e ae ads s', k e ae ads s' = true -> ∀ ρ' w' env' ds', Le ρ ρ' -> Rel w0 ρ' s' w' -> ER ρ' ae env' -> DR ρ' ads ds' -> K e env' ds' w'
theorem FZ.mono {w0 : World} {ρ ρ' : Nm} {k : KC} {K : Exit -> Env -> List Nat -> World -> Prop} (h : FZ w0 ρ k K) (hl : Le ρ ρ') : FZ w0 ρ' k K :=
  fun e ae ads s' hk ρ1 w' env' ds' l1 => h e ae ads s' hk ρ1 w' env' ds' (hl.trans l1)
def iy (P : Program) (w0 : World) (prev : RunT) : Prop := ∀ nt c r r' an ae ads Γ s k, prev nt c r an ae ads Γ s k = true -> ∀ ρ w env ds K, Rel w0 ρ s w -> ER ρ ae env -> DR ρ ads ds -> GR P ρ Γ -> RR ρ r r' -> FZ w0 ρ k K -> den P nt c r' an env ds w K
def zx (prev : RunT) : Prop := ∀ nt c r an ae ads Γ s, prev nt c r an ae ads Γ s (fun _ _ _ _ => false) = false
theorem vZ : ∀ (ds : List Nat) (s : St), je ds s (fun _ => false) = false
  | [], _ => rfl
  | D :: ds, s => by
    unfold je
    simp only [vZ ds, iD]
    split <;> rfl
section
variable (P : Program) (A : Tab) {prev : RunT} (hp : zx prev)
 include hp
theorem yE (Γ : jZ) (f : FuncId) (args : List AV) (s : St) : gJ P A prev Γ f args s (fun _ _ => false) = false := by
  unfold gJ
  split
  · rfl
  unfold tJ
  split
  · split
    · rename_i fn an _ _ _ c _
      refine (congrArg (fun q => cond _ q false) ((congrArg (prev fn.ntmps c none an (Bh 0 args) [] Γ s) (funext fun e => funext fun env => funext fun ds => funext fun s' => ?_)).trans (hp ..))).trans (aB _)
      have h2 : ∀ (rs : List ResultVar), (je ds s' fun s'' => match qJ P rs env s'' with
          | some vs => false
          | none => false) = false := fun rs => by
          rw [show (fun s'' => (match qJ P rs env s'' with
            | some vs => false
            | none => false : Bool)) = fun _ => false from funext fun s'' => by split <;> rfl]
          exact vZ _ _
      split <;> first | exact h2 _ | rfl
    · rfl
  · rfl
 omit hp in
theorem Hr (nt : Nat) : ∀ (c : Code) (an : iZ) (e : AE) (s : St), rC P nt c an e s (fun _ _ => false) = false := by
  intro c
  induction c with
  | region id ops draw => intro an e s; unfold rC; rw [yD P IK]; exact aB draw |>.symm ▸ by cases draw <;> rfl
  | seq a b iha ihb =>
    intro an e s
    unfold rC
    split
    · simp only [ihb, iha]
    · rfl
  | _ => intro an e s; rfl
theorem Du (Γ : jZ) (l : Nat) (args : List AV) (s : St) : pU P prev Γ l args s (fun _ _ => false) = false := by
  unfold pU
  split
  · rename_i i p hi hl
    refine (congrArg (fun q => cond _ q false) ?_).trans (aB _)
    refine (congrArg (rC P i.nt i.assign i.x (yS i.ps args ++ i.env) s) (funext fun env1 => funext fun s1 => ?_)).trans (Hr P ..)
    refine (congrArg (iI s1 l (.loop .busy p)) (funext fun s2 => ?_)).trans (iD ..)
    refine (congrArg (prev i.nt i.body (some l) i.y env1 [] Γ s2) (funext fun e => funext fun _ => funext fun _ => funext fun s3 => ?_)).trans (hp ..)
    simp only [iD]
    repeat' split
    all_goals simp only [aB]
    all_goals (repeat' split)
    all_goals simp only [aB]
  · rfl
theorem yw (Γ : jZ) : Jr (Cc P A prev Γ) := ⟨fun f args s => yE P A hp Γ f args s, fun l args s => Du P hp Γ l args s⟩
theorem BF (nt : Nat) (a : Code) (r : Option Nat) (x : iZ) (st : List (Nat × Kind)) (base : AE) (Γ : jZ) : ∀ (n : Nat) (l : AE) (ds : List Nat) (s : St), qV prev nt a r x st base Γ (fun _ _ _ _ => false) n l ds s = false
  | 0, _, _, _ => rfl
  | n + 1, l, ds, s => by
    show oQ prev nt a r x st base Γ (fun _ _ _ _ => false) (qV prev nt a r x st base Γ (fun _ _ _ _ => false) n) l ds s = false
    unfold oQ
    refine (congrArg (prev nt a r x (l ++ base) ds Γ s) (funext fun e => funext fun env' => funext fun ds' => funext fun s' => ?_)).trans (hp ..)
    split
    · split
      · exact BF nt a r x st base Γ n ..
      · rfl
    · rfl
theorem Gx (nt : Nat) (g : Operand) (ps : List Nat) (assign body : Code) (ks : List Shape) (x y : iZ) (env : AE) (ds : List Nat) (Γ : jZ) (m : Option Nat) (s : St) : Az P A prev nt g ps assign body ks x y env ds Γ m s (fun _ _ _ _ => false) = false := by
  unfold Az
  split
  · rename_i f first cap hv
    refine (congrArg (fun q => cond _ q false) ?_).trans (aB _)
    refine (congrArg (iT s (.loop .ready .no)) (funext fun l => funext fun s1 => ?_)).trans (mO ..)
    refine (congrArg (gJ P A prev ((l, ⟨nt, ps, ks, x, y, assign, body, env⟩) :: Γ) f (first ++ (.yld l :: cap)) s1) (funext fun rs => funext fun s2 => ?_)).trans (yE P A hp ..)
    split
    · rename_i st p hg
      have : (fun (s3 : St) => (match p with
            | .no => false
            | .ret => false
            | .ex id => cond (dV id (bV body)) false false : Bool)) = fun _ => false := by
        funext s3
        cases p <;> first | rfl | exact aB _
      cases p <;> simp only [iD, aB] <;> cases IW st .busy <;> rfl
    · rfl
  · rfl
theorem E_ : zx (zn P A prev) := by
  intro nt c r an ae ads Γ s
  cases c with
  | skip => rfl
  | label _ => rfl
  | ret => rfl
  | exit _ => rfl
  | region id ops draw =>
    unfold zn
    dsimp only
    unfold Ey
    rw [sQ P (yw P A hp Γ), yD P (yw P A hp Γ), aB, aB]
  | seq a b =>
    show B_ prev nt a b r an ae ads Γ s _ = false
    unfold B_
    split
    · rename_i x y
      refine (congrArg (prev nt a r x ae ads Γ s) (funext fun e => funext fun env' => funext fun ds' => funext fun s' => ?_)).trans (hp ..)
      unfold G8
      split
      · exact hp ..
      · rfl
    · rfl
  | cond c a b =>
    show condC prev nt c a b r an ae ads Γ s _ = false
    unfold condC
    split
    · split
      · rw [hp, hp, aB]
      · rfl
    · rfl
  | block id a =>
    show BX prev nt id a r an ae ads Γ s _ = false
    unfold BX
    split
    · rename_i x
      refine (congrArg (prev nt a r x ae ads Γ s) (funext fun e => funext fun env' => funext fun ds' => funext fun s' => ?_)).trans (hp ..)
      unfold Gs
      split
      · exact aB _
      · rfl
    · rfl
  | scope a =>
    show prev nt a r an ae ads Γ s (DI _) = false
    refine (congrArg (prev nt a r an ae ads Γ s) (funext fun e => funext fun env' => funext fun ds' => funext fun s' => ?_)).trans (hp ..)
    unfold DI
    split <;> rfl
  | loop a =>
    show HY prev nt a r an ae ads Γ s _ = false
    unfold HY
    split
    · split
      · exact BF hp ..
      · rfl
    · rfl
  | rangeFunc g ps assign body =>
    show II P A prev nt g ps.toList assign body r an ae ads Γ s _ = false
    unfold II
    simp only [Gx P A hp, mO]
    repeat' split
    all_goals simp only [aB]
    all_goals (repeat' split)
    all_goals simp only [aB]
  | _ => rfl
end
theorem Fq (P : Program) (A : Tab) : ∀ n, zx (run P A n)
  | 0 => fun _ _ _ _ _ _ _ _ => rfl
  | n + 1 => E_ P A (Fq P A n)
end Gp.Rn
end
