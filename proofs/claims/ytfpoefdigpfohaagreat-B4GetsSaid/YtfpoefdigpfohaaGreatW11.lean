import Derived.Test.YtfpoefdigpfohaaGreatW10
section
namespace Go.Proofs
open Gp Gp.Hol Gp.Jn
set_option maxRecDepth 100000
set_option maxHeartbeats 2000000
theorem Lm {a b : ByteArray} (h : a.toList = b.toList) : a = b := by
  rw [ByteArray.toList_eq, ByteArray.toList_eq] at h
  cases a; cases b
  simp at h
  rw [h]
theorem Vy (a b : ByteArray) : strEq a b = decide (a = b) := by
  unfold strEq
  by_cases h : a = b
  · subst h; simp
  · rw [decide_eq_false h, beq_eq_false_iff_ne]
    exact fun e => h (Lm e)
theorem eqS (a b : ByteArray) : Fj Tryz.prog 16 9 (yM a) (yM b) = some (decide (a = b)) := by
  have h : Fj Tryz.prog 16 9 (.string a) (.string b) = some (strEq a b) := by kernel_rfl
  rw [h, Vy]
theorem keyS (a : ByteArray) : rY Tryz.prog 9 (yM a) = true := by
  have h : rY Tryz.prog 9 (.string a) = true := by kernel_rfl
  exact h
theorem PS {α β : Type} [DecidableEq α] {enc : α -> Value} {ev : β -> Value} {w : World} {r : Nat} {l : List (α × β)} {P : Program} {kt : TypeId} (h : nX enc ev w r l) (hE : ∀ a b : α, Fj P 16 kt (enc a) (enc b) = some (decide (a = b))) (a : α) (hk : rY P kt (enc a) = true) {z : Value} {K : Value -> Bool -> Prop}
    (h0 : Jb l a = none -> K z false) (h1 : ∀ b, Jb l a = some b -> K (ev b) true) : yV P kt (some r) (enc a) z w K := by
  obtain ⟨es, c, g1, g2, _⟩ := h
  refine ⟨hk, .inr ⟨r, es, c, rfl, g1, ?_⟩⟩
  cases hl : Jb l a with
  | none =>
    cases l with
    | nil =>
      have : es.toList = [] := by simpa using g2
      exact ⟨none, by rw [this]; rfl, h0 hl⟩
    | cons x l' =>
      rcases IU hE a x.2 es.toList _ 0 g2 with ⟨_, q2, _⟩ | ⟨j, v, e, q1, _⟩
      · exact ⟨_, q2, h0 hl⟩
      · rw [hl] at q1; cases q1
  | some b =>
    rcases IU hE a b es.toList _ 0 g2 with ⟨q1, _, _⟩ | ⟨j, v, e, q1, q2, _⟩
    · rw [hl] at q1; cases q1
    · rw [hl] at q1; cases q1
      exact ⟨_, q2, h1 b hl⟩
theorem PK {l l' : List Pc} (h : l.Perm l') (off : Int) (b : List UInt8) : Oe l off b = room l' off b := by
  unfold Oe room
  simp only [h.mem_iff]
section
variable {w w' : World} {t m : Nat} {many bytes wait : Int} {rs : List (Key × JE)}
theorem SL (h : FV w t m many bytes wait rs) (k : Key) (now : Int) : fE (some ⟨t, 0, none⟩) k now w fun p e w' => Ext w w' ∧
    match qM many (iM rs) k now with
    | none => p = none ∧ e = 7
    | some x => e = 0 ∧ ∃ r : BR, p = some ⟨r.b, 0, none⟩ ∧ Gs w' (r, x) ∧ (Jb rs k = some (r, x) ∨ (Jb rs k = none ∧ ∀ z, xE r z -> w.heap.size <= z)) := by
  apply wZ
  simp only [sx, h.row.cell]
  refine PS h.map eqS k (keyS k) (fun hl => ?_) (fun e hl => ?_)
  · have hj : qM many (iM rs) k now = if many <= (rs.length : Int) then none else some (fresh now) := by
      unfold qM
      rw [Nl, hl]
      simp [iM]
    rw [hj]
    refine ⟨none, rfl, ?_⟩
    simp only [cond_false]
    have hd := h.ext (Ext.drew w)
    have rd := hd.row
    simp only [List.getElem?_cons_zero, List.getElem?_cons_succ, aj, au, yI, rd.cell]
    refine Q9 hd.map ?_
    simp only [true_and]
    by_cases hf : many <= (rs.length : Int)
    · rw [decide_eq_true (show (rs.length : Int) >= many from hf), cond_true, if_pos hf]
      exact ⟨Ext.drew w, by trivial⟩
    · rw [decide_eq_false (show ¬ (rs.length : Int) >= many from hf), cond_false, if_neg hf]
      refine IX (Ut w.drew) ?_
      rintro v w1 ⟨hb, rfl, e1, z1, H, f1⟩
      refine aK fun b w2 r2 e2 z2 f2 => ?_
      have zd : w.drew.heap.size = w.heap.size := rfl
      have ec : (if (1099511627776 : Int) < (if (0 : Int) > now then 0 else now) then 1099511627776 else (if (0 : Int) > now then 0 else now)) = N7 now := by
        unfold N7
        split <;> split <;> omega
      rw [ec] at r2
      refine ⟨((Ext.drew w).trans f1).trans f2, ⟨b, hb, ⟨none, 0, 0⟩, [], []⟩, rfl, ⟨r2, H.ext f2, Gp.Hol.Good.nil, List.Pairwise.nil, List.Perm.refl _, ⟨by simp only; omega, (by rintro ⟨o, hz⟩; cases hz), fun x hx => by simp at hx⟩⟩, .inr ⟨hl, ?_⟩⟩
      rintro z (g | g | ⟨o, g⟩ | ⟨x, hx, _⟩)
      · simp only at g; omega
      · simp only at g; omega
      · cases g
      · simp at hx
  · have hj : qM many (iM rs) k now = some e.2 := by
      unfold qM
      rw [Nl, hl]; rfl
    rw [hj]
    refine ⟨some ⟨e.1.b, 0, none⟩, rfl, ?_⟩
    simp only [cond_true]
    exact ⟨Ext.refl _, by trivial, e.1, rfl, h.bufs _ (xP hl), .inl hl⟩
end
end Go.Proofs
end
section
namespace Go.Proofs
open Gp Gp.Hol Gp.Jn
set_option maxRecDepth 100000
set_option maxHeartbeats 4000000
theorem U6 {α : Type} {R : α -> α -> Prop} : ∀ {l : List α}, l.Pairwise R -> ∀ {a b : α}, a ∈ l -> b ∈ l -> a ≠ b -> R a b ∨ R b a
  | [], _, _, _, ha, _, _ => by simp at ha
  | y :: l, h, a, b, ha, hb, hne => by
    obtain ⟨h1, h2⟩ := List.pairwise_cons.1 h
    rcases List.mem_cons.1 ha with ha' | ha'
    · rcases List.mem_cons.1 hb with hb' | hb'
      · exact absurd (ha'.trans hb'.symm) hne
      · rw [ha']; exact .inl (h1 b hb')
    · rcases List.mem_cons.1 hb with hb' | hb'
      · rw [hb']; exact .inr (h1 a ha')
      · exact U6 h2 ha' hb' hne
theorem UN {α β : Type} {enc : α -> Value} {ev : β -> Value} {w : World} {s : ah} {l : List UInt8} {m : Nat} {es : List (α × β)} (h : aS w s l) (hm : nX enc ev w m es) {a : Addr} (ha : s.a = some a) (h0 : 0 < l.length) : a.block ≠ m := by
  intro e
  obtain ⟨es', c, g, _⟩ := hm
  obtain ⟨a', h1, h2⟩ := h.at_ (List.getElem?_eq_getElem h0)
  rw [ha] at h1; cases h1
  unfold World.cell? at h2
  rw [block_add, e, g] at h2
  cases h2
section
variable {w : World} {t m : Nat} {many bytes wait : Int} {rs : List (Key × JE)}
structure TW (w w' : World) (t m : Nat) (many bytes wait : Int) (rs : List (Key × JE)) (N : Nat) (o : Out) (k : Key) (off : Int) (more : Bool) (b : List UInt8) (now : Int) (hd : ByteArray) (all : ah) (done : Bool) (e : Int) : Prop where
  tab : ∃ rs', FV w' t m many bytes wait rs' ∧ iM rs' = o.l ∧ (∀ x ∈ rs', x.2.1.l.length <= N + 1) ∧ ∀ x ∈ rs', ∀ z, xE x.2.1 z -> (∃ y ∈ rs, xE y.2.1 z) ∨ w.heap.size <= z
  out : hd = o.head ∧ done = o.done ∧ e = o.e
  whole : done = true -> ∃ x l, qM many (iM rs) k now = some x ∧ l.Perm (Hol.add x.L (off, more, b)).2 ∧ l.Pairwise le ∧ aS w' all (cat l) ∧ ∀ a, all.a = some a -> w.heap.size <= a.block
  none : done = false -> all = ⟨Option.none, 0, 0⟩
  fr : bF w w' fun z => z = m ∨ ∃ y ∈ rs, xE y.2.1 z
theorem TQ (h : FV w t m many bytes wait rs) (hb0 : 0 <= bytes) (hb1 : bytes <= 2 ^ 30) (hsum : yY (iM rs) <= bytes) {N : Nat} (hN : N < 2 ^ 19) (hlen : ∀ x ∈ rs, x.2.1.l.length <= N) {s : ah} {b : List UInt8} (hs : aS w s b) (hbl : b.length <= 2 ^ 30) (k : Key) (off : Int) (more : Bool) (head : ByteArray) (now : Int) :
    dB (some ⟨t, 0, none⟩) k off more s head now w fun hd all done e w' => TW w w' t m many bytes wait rs N (Fh many bytes (iM rs) k off more b head now) k off more b now hd all done e := by
  have htl := h.row.lt
  have hml := h.map.lt
  have hs0 : 0 <= yY (iM rs) := by
    rw [LK rs fun e he => (h.bufs e he).perm]; exact Ac rs
  apply yP
  refine vJ (O1 h) ?_
  rintro r w0 ⟨rfl, hw⟩
  subst hw
  rw [Bool.not_true, cond_false]
  refine xI (SL h k now) ?_
  rintro p e w1 ⟨f1, ho⟩
  have same : ∀ w', Ext w0 w' -> ∃ rs', FV w' t m many bytes wait rs' ∧ iM rs' = iM rs ∧ (∀ x ∈ rs', x.2.1.l.length <= N + 1) ∧ ∀ x ∈ rs', ∀ z, xE x.2.1 z -> (∃ y ∈ rs, xE y.2.1 z) ∨ w0.heap.size <= z :=
    fun w' hx => ⟨rs, h.ext hx, rfl, fun x hx => Nat.le_trans (hlen x hx) (Nat.le_succ _), fun x hx z hz => .inl ⟨x, hx, hz⟩⟩
  unfold Fh
  cases hopen : qM many (iM rs) k now with
  | none =>
    rw [hopen] at ho
    obtain ⟨rfl, rfl⟩ := ho
    rw [show ((7 : Int) != 0) = true from rfl, cond_true]
    exact ⟨same w1 f1, ⟨rfl, rfl, rfl⟩, fun h => by simp at h, fun _ => rfl, f1 _⟩
  | some x =>
  rw [hopen] at ho
  obtain ⟨rfl, r, rfl, hB, hin⟩ := ho
  rw [show ((0 : Int) != 0) = false from rfl, cond_false]
  have s1 := f1.size
  have fpt : ∀ z, xE r z -> z ≠ t ∧ z ≠ m := fun z hz => by
    rcases hin with hin | ⟨_, hnew⟩
    · exact h.apart _ (xP hin) z hz
    · have := hnew z hz; omega
  have fpo : ∀ y ∈ rs, y.1 ≠ k -> ∀ z, xE r z -> ¬ xE y.2.1 z := fun y hy hk z hz hz' => by
    rcases hin with hin | ⟨_, hnew⟩
    · rcases U6 h.dis (xP hin) hy (fun e => hk (by rw [<- e])) with g | g
      · exact g z hz hz'
      · exact g z hz' hz
    · have := hnew z hz; have := (h.bufs y hy).lt hz'; omega
  have hxl : r.l.length <= N := by
    rcases hin with hin | ⟨hnone, hnew⟩
    · exact hlen _ (xP hin)
    · unfold qM at hopen
      rw [Nl, hnone] at hopen
      simp only [Option.map_none] at hopen
      split at hopen
      · cases hopen
      · cases hopen
        have := hB.perm.length_eq
        simp only [fresh, List.length_nil] at this
        omega
  have hBd := hB.ext (Ext.drew w1)
  have J1 := h.ext (f1.trans (Ext.drew w1))
  have hs1 := hs.ext (f1.trans (Ext.drew w1))
  have zd : w1.drew.heap.size = w1.heap.size := rfl
  simp -zeta only [sx, hBd.row.cell, J1.row.cell]
  refine vW (TT hBd.H (by show r.l.length <= 2 ^ 30; omega) hs1) ?_
  rintro r17 w2 ⟨rfl, f2⟩
  have J2 := J1.ext f2
  simp -zeta only [true_and, List.getElem?_cons_zero, List.getElem?_cons_succ, J2.row.cell]
  refine xZ (Uj J2 (by omega)) ?_
  rintro r19 w3 ⟨rfl, f3⟩
  have J3 := J2.ext f3
  have x03 := (f1.trans (Ext.drew w1)).trans (f2.trans f3)
  have s03 := x03.size
  have hB3 := (hBd.ext f2).ext f3
  simp -zeta only [true_and, List.getElem?_cons_zero, List.getElem?_cons_succ, J3.row.cell]
  rw [PK hB.perm, wrap_i64 (by omega) (by omega)]
  unfold Vs
  by_cases hroom : bytes - yY (iM rs) < room x.L off b
  · rw [decide_eq_true (show room x.L off b > bytes - yY (iM rs) from hroom), cond_true, if_pos hroom]
    exact ⟨same w3 x03, ⟨rfl, rfl, rfl⟩, fun h => by simp at h, fun _ => rfl, x03 _⟩
  rw [decide_eq_false (show ¬ room x.L off b > bytes - yY (iM rs) from hroom), cond_false, if_neg hroom]
  simp -zeta only [List.getElem?_cons_zero, aj, yD, hB3.row.cell]
  refine xH (Uk hB3.H hB3.G hB3.srt (by show r.l.length <= 2 ^ 20; omega) (hs.ext x03) (by omega)) ?_
  rintro r23 w4 ⟨hr23, s', xs', l', H', hp', hs', hf4, hn4, hx4⟩
  have s4 := hf4.size
  obtain ⟨ap1, ap2⟩ := RU hB3.G hB3.perm (off, more, b)
  rw [ap1] at hr23
  have hp'' : l'.Perm (Hol.add x.L (off, more, b)).2 := hp'.trans ap2
  have hll := Ua r.l (off, more, b)
  have hl'len : l'.length <= N + 1 := by rw [hp'.length_eq]; exact Nat.le_trans hll (Nat.succ_le_succ hxl)
  have G' : Gp.Hol.Good l' := (Good.add' hB3.G (off, more, b)).perm hp'.symm
  have fsub : ∀ z, (z = r.h ∨ ah.at r.s z) -> xE r z := fun z hz => by
    rcases hz with hz | hz
    · exact .inr (.inl hz)
    · exact .inr (.inr (.inl hz))
  have fp' : ∀ z, xE ⟨r.b, r.h, s', xs', l'⟩ z -> xE r z ∨ w0.heap.size <= z := fun z hz => by
    rcases hz with hz | hz | hz | ⟨y, hy, a, ha, h0, hz⟩
    · exact .inl (.inl hz)
    · exact .inl (.inr (.inl hz))
    · rcases hn4 z hz with g | g
      · exact .inl (.inr (.inr (.inl g)))
      · exact .inr (by omega)
    · rcases hx4 y hy with g | g
      · exact .inl (.inr (.inr (.inr ⟨y, g, a, ha, h0, hz⟩)))
      · exact .inr (by have := g a ha; omega)
  have hne' : r.b ≠ r.h ∧ (¬ ah.at s' r.b) ∧ sH xs' (· = r.b) := by
    refine ⟨hB3.ne.1, fun hz => ?_, fun y hy a ha h0 e => ?_⟩
    · rcases hn4 _ hz with g | g
      · exact hB3.ne.2.1 g
      · have := hB3.row.lt; simp only at this; omega
    · rcases hx4 y hy with g | g
      · exact hB3.ne.2.2 y g a ha h0 e
      · have := g a ha; have := hB3.row.lt; simp only at this; omega
  have ho4 : ∀ y ∈ rs, y.1 ≠ k -> Gs w4 y.2 := fun y hy hk => (J3.bufs y hy).fr hf4 fun z hz e => fpo y hy hk z (fsub z e) hz
  have rt4 := J3.row.fr hf4 fun e => (fpt t (fsub t e)).1 rfl
  have hm4 := J3.map.fr hf4 fun e => (fpt m (fsub m e)).2 rfl
  have rb4 : Row w4 r.b [.pointer (some ⟨r.h, 0, none⟩), .int .i64 x.since, .string x.head, .bool x.begun] := hB3.row.fr hf4 fun e => by
    rcases e with e | e
    · exact hB3.ne.1 e
    · exact hB3.ne.2.1 e
  have F4 : bF w0 w4 fun z => z = m ∨ ∃ y ∈ rs, xE y.2.1 z := (x03 _).trans hf4 fun y hy e => by
    rcases hin with hin | ⟨_, hnew⟩
    · exact .inr ⟨_, xP hin, fsub y e⟩
    · have := hnew y (fsub y e); omega
  by_cases he : (Hol.add x.L (off, more, b)).1 ≠ 0
  · rw [hr23, show ((Hol.add x.L (off, more, b)).1 != 0) = true by simpa using he, cond_true, if_pos he]
    simp -zeta only [List.getElem?_cons_zero, aj, yI, rt4.cell]
    refine JW hm4 eqS k (keyS k) fun w5 hm5 f5 z5 => ?_
    have ho5 : ∀ y ∈ rs, y.1 ≠ k -> Gs w5 y.2 := fun y hy hk => (ho4 y hy hk).fr f5 fun z hz e => (h.apart y hy z hz).2 e
    refine ⟨⟨oP rs k, h.del (rt4.fr f5 h.tm) hm5 ho5, JF, fun y hy => Nat.le_trans (hlen y (uM h.nodup hy).1) (Nat.le_succ _), fun y hy z hz => .inl ⟨y, (uM h.nodup hy).1, hz⟩⟩, ⟨rfl, rfl, rfl⟩, fun h => by simp at h, fun _ => rfl, F4.trans f5 fun y hy e => .inl e⟩
  have he : (Hol.add x.L (off, more, b)).1 = 0 := Classical.byContradiction he
  rw [hr23, he, show ((0 : Int) != 0) = false from rfl, cond_false, if_neg (by simp)]
  have hw : zO (Hol.add x.L (off, more, b)).2 = decide (0 <= bI l' ∧ gaps 0 l' (bI l') = []) := by
    unfold zO
    rw [<- wS G'.one hp'', <- pq hp'']
    by_cases h0 : 0 <= bI l'
    · have := Lh G' hs' h0
      by_cases hg : gaps 0 l' (bI l') = []
      · rw [decide_eq_true ⟨h0, this.1 hg⟩, decide_eq_true ⟨h0, hg⟩]
      · rw [decide_eq_false (fun h => hg (this.2 h.2)), decide_eq_false (fun h => hg h.2)]
    · rw [decide_eq_false (fun h => h0 h.1), decide_eq_false (fun h => h0 h.1)]
  intro J28
  have hJ28 : ∀ W, bF w4 W (· = r.b) -> Row W r.b [.pointer (some ⟨r.h, 0, none⟩), .int .i64 x.since, .string (begin_ { x with L := (Hol.add x.L (off, more, b)).2 } off head).head, .bool (begin_ { x with L := (Hol.add x.L (off, more, b)).2 } off head).begun] -> J28 W := by
    intro W fW rW
    simp -zeta only [J28]
    have sW := fW.size
    have hrb : xE r r.b := .inl rfl
    have rtW := rt4.fr fW fun e => (fpt _ hrb).1 e.symm
    have hmW := hm4.fr fW fun e => (fpt _ hrb).2 e.symm
    have HW : HAt W r.h s' xs' l' (bI l') := H'.fr fW (fun e => hB3.ne.1 e.symm) (fun z hz e => hne'.2.1 (e ▸ hz)) (fun y hy a ha h0 e => hne'.2.2 y hy a ha h0 e)
    have hoW : ∀ y ∈ rs, y.1 ≠ k -> Gs W y.2 := fun y hy hk => (ho4 y hy hk).fr fW fun z hz e => fpo y hy hk z (by rw [e]; exact hrb) hz
    have FW : bF w0 W fun z => z = m ∨ ∃ y ∈ rs, xE y.2.1 z := F4.trans fW fun y hy e => by
      rcases hin with hin | ⟨_, hnew⟩
      · exact .inr ⟨_, xP hin, by rw [e]; exact hrb⟩
      · have := hnew _ hrb; omega
    generalize hx1 : begin_ { x with L := (Hol.add x.L (off, more, b)).2 } off head = x1 at rW ⊢
    have hx1L : x1.L = (Hol.add x.L (off, more, b)).2 := by rw [<- hx1, Ug]
    have hx1s : x1.since = x.since := by rw [<- hx1, KA]
    simp -zeta only [List.getElem?_cons_zero, aj, yD, rW.cell]
    refine vV (UJ HW G' (by omega)) ?_
    rintro all ok w5 ⟨hdone, f5⟩
    have s5 := f5.size
    have rt5 := rtW.ext f5
    have hm5 := hmW.ext f5
    rcases hdone with ⟨rfl, d1, d2, d3, d4⟩ | ⟨rfl, d1, _⟩
    · rw [if_pos (by rw [hw, decide_eq_true ⟨d1, d2⟩])]
      rw [Bool.not_true, cond_false]
      simp -zeta only [List.getElem?_cons_zero, aj, yI, rt5.cell]
      refine JW hm5 eqS k (keyS k) fun w6 hm6 f6 z6 => ?_
      have hmr : r.b ≠ m := (fpt _ hrb).2
      have rb6 := (rW.ext f5).fr f6 hmr
      simp -zeta only [List.getElem?_cons_zero, List.getElem?_cons_succ, aj, Ol, rb6.cell]
      have ho6 : ∀ y ∈ rs, y.1 ≠ k -> Gs w6 y.2 := fun y hy hk => ((hoW y hy hk).ext f5).fr f6 fun z hz e => (h.apart y hy z hz).2 e
      refine ⟨⟨oP rs k, h.del (rt5.fr f6 h.tm) hm6 ho6, JF, fun y hy => Nat.le_trans (hlen y (uM h.nodup hy).1) (Nat.le_succ _), fun y hy z hz => .inl ⟨y, (uM h.nodup hy).1, hz⟩⟩, ⟨rfl, rfl, rfl⟩, fun _ => ⟨x, l', hopen, hp'', hs', ?_⟩, fun h => by simp at h, (FW.ext f5).trans f6 fun y hy e => .inl e⟩
      exact ⟨d3.fr f6 fun a ha h0 e => UN d3 hm5 ha h0 e, fun a ha => by have := d4 a ha; have := FW.size; omega⟩
    · rw [if_neg (by rw [hw, decide_eq_false (fun h => d1.elim (fun d1 => absurd h.1 (Int.not_le.2 d1)) fun d1 => d1 h.2)]; simp)]
      rw [Bool.not_false, cond_true]
      simp -zeta only [List.getElem?_cons_zero, aj, yI, rt5.cell]
      have hb5 : Gs w5 (⟨r.b, r.h, s', xs', l'⟩, x1) := ⟨by rw [hx1s]; exact rW.ext f5, HW.ext f5, G', hs', by rw [hx1L]; exact hp'', hne'⟩
      have fpx : ∀ z, xE ⟨r.b, r.h, s', xs', l'⟩ z -> z ≠ t ∧ z ≠ m := fun z hz => by
        rcases fp' z hz with g | g
        · exact fpt z g
        · omega
      refine SH (b := ((⟨r.b, r.h, s', xs', l'⟩, x1) : JE)) hm5 eqS k (keyS k) fun w6 hm6 f6 z6 => ?_
      have hb6 := hb5.fr f6 fun z hz e => (fpx z hz).2 e
      have ho6 : ∀ y ∈ rs, y.1 ≠ k -> Gs w6 y.2 := fun y hy hk => ((hoW y hy hk).ext f5).fr f6 fun z hz e => (h.apart y hy z hz).2 e
      refine ⟨⟨zV rs k (⟨r.b, r.h, s', xs', l'⟩, x1), h.up (rt5.fr f6 h.tm) hm6 hb6 ho6 (fun y hy hk z hz hz' => ?_) fpx, UD, fun y hy => ?_, fun y hy z hz => ?_⟩, ⟨rfl, rfl, rfl⟩, fun h => by simp at h, fun _ => rfl, (FW.ext f5).trans f6 fun y hy e => .inl e⟩
      · rcases fp' z hz with g | g
        · exact fpo y hy hk z g hz'
        · have := (h.bufs y hy).lt hz'; omega
      · rcases Dw h.nodup hy with rfl | ⟨g, _⟩
        · exact hl'len
        · exact Nat.le_trans (hlen y g) (Nat.le_succ _)
      · rcases Dw h.nodup hy with rfl | ⟨g, _⟩
        · rcases fp' z hz with g | g
          · rcases hin with hin | ⟨_, hnew⟩
            · exact .inl ⟨_, xP hin, g⟩
            · exact .inr (hnew z g)
          · exact .inr g
        · exact .inl ⟨y, g, hz⟩
  clear_value J28
  intro J43
  have hJt : x.begun = false -> off = 0 -> J43 true := by
    intro hbg ho0
    simp -zeta only [J43, cond_true]
    refine bM rb4 rfl (by simp) fun w5 r5 f5 z5 => ?_
    simp only [List.set_cons_zero, List.set_cons_succ] at r5
    refine bM r5 rfl (by simp) fun w6 r6 f6 z6 => ?_
    simp only [List.set_cons_zero, List.set_cons_succ] at r6
    refine hJ28 w6 ((f5 (· = r.b) rfl).trans (f6 (· = r.b) rfl) fun _ _ e => e) ?_
    have eb : begin_ { x with L := (Hol.add x.L (off, more, b)).2 } off head = ⟨x.since, head, true, (Hol.add x.L (off, more, b)).2⟩ := by
      unfold begin_; rw [if_pos ⟨ho0, hbg⟩]
    rw [eb]
    exact r6
  have hJf : ¬ (off = 0 ∧ x.begun = false) -> J43 false := by
    intro hno
    simp -zeta only [J43, cond_false]
    refine hJ28 w4 (bF.refl _ _) ?_
    have eb : begin_ { x with L := (Hol.add x.L (off, more, b)).2 } off head = { x with L := (Hol.add x.L (off, more, b)).2 } := by
      unfold begin_; rw [if_neg hno]
    rw [eb]
    exact rb4
  clear_value J43
  by_cases ho0 : off = 0
  · rw [show (off == 0) = true by simpa using ho0, cond_true]
    simp -zeta only [List.getElem?_cons_zero, List.getElem?_cons_succ, aj, aJ, rb4.cell]
    cases hbg : x.begun with
    | true => exact hJf (by rw [hbg]; simp)
    | false => exact hJt hbg ho0
  · rw [show (off == 0) = false by simpa using ho0, cond_false]
    exact hJf fun h => ho0 h.1
end
end Go.Proofs
end
section
namespace Gp.Gets
open Gp.V4 Gp.Hol Gp.Jn
set_option maxRecDepth 10000
def qI (l : List (Nat × Bool × List UInt8)) : List Pc := l.map fun x => ((x.1 : Int), x.2.1, x.2.2)
structure TI (D : List UInt8) (L : List Pc) (a : Nat) : Prop where
  lo : ∀ p ∈ L, (a : Int) <= p.1
  hi : ∀ p ∈ L, pend p <= (D.length : Int)
  may : ∀ p ∈ L, may p = 0
  ne : ∀ p ∈ L, p.2.2 ≠ []
  good : Good L
  sum : sum L = (D.length : Int) - a
  last : ∃ p ∈ L, p.2.1 = false ∧ pend p = (D.length : Int)
  get : ∀ p ∈ L, ∀ k, k < p.2.2.length -> D[p.1.toNat + k]? = p.2.2[k]?
  fst : ∃ p ∈ L, p.1 = (a : Int)
theorem zK (p : Pc) (l : List Pc) : Gp.Hol.sum (p :: l) = (p.2.2.length : Int) + Gp.Hol.sum l := by
  unfold Gp.Hol.sum; simp
theorem zW (a b : List Pc) : Gp.Hol.sum (a ++ b) = Gp.Hol.sum a + Gp.Hol.sum b := by
  unfold Gp.Hol.sum; rw [List.map_append, List.sum_append]
theorem QF {D : List UInt8} (hD : D.length <= 60000) : ∀ (k a : Nat), a < D.length -> D.length - a < k -> TI D (qI (dX 1232 1232 D k a)) a
  | 0, a, _, h => by omega
  | k + 1, a, ha, hk => by
    unfold dX
    split
    · rename_i hm
      have B := QF hD k (a + 1232) (by omega) (by omega)
      have hl : ((D.drop a).take 1232).length = 1232 := by rw [List.length_take, List.length_drop]; omega
      have hp : pend ((a : Int), true, (D.drop a).take 1232) = (a : Int) + 1232 := by
        show (a : Int) + (((D.drop a).take 1232).length : Int) = _
        rw [hl]; rfl
      have hmay : Gp.Hol.may ((a : Int), true, (D.drop a).take 1232) = 0 := by
        unfold Gp.Hol.may
        simp only [hl]
        rw [if_neg (by omega), if_neg (by omega)]
      have hne : (D.drop a).take 1232 ≠ [] := fun e => by rw [e] at hl; simp at hl
      show TI D (((a : Int), true, (D.drop a).take 1232) :: qI (dX 1232 1232 D k (a + 1232))) a
      generalize qI (dX 1232 1232 D k (a + 1232)) = L at B
      refine ⟨?_, ?_, ?_, ?_, ⟨?_, ?_, ?_, ?_⟩, ?_, ?_, ?_, ⟨_, List.mem_cons_self .., rfl⟩⟩
      · rintro p hp'
        rcases List.mem_cons.1 hp' with rfl | h
        · exact Int.le_refl _
        · have := B.lo p h; omega
      · rintro p hp'
        rcases List.mem_cons.1 hp' with rfl | h
        · rw [hp]; omega
        · exact B.hi p h
      · rintro p hp'
        rcases List.mem_cons.1 hp' with rfl | h
        · exact hmay
        · exact B.may p h
      · rintro p hp'
        rcases List.mem_cons.1 hp' with rfl | h
        · exact hne
        · exact B.ne p h
      · rintro p hp'
        rcases List.mem_cons.1 hp' with rfl | h
        · exact ⟨by simp only; omega, by rw [hp]; omega, fun _ => hne⟩
        · exact B.good.ok p h
      · refine List.pairwise_cons.2 ⟨fun q hq => ?_, B.good.apart⟩
        have h1 := B.lo q hq
        unfold sh
        rw [hp]
        have e1 : ((D.drop a).take 1232).isEmpty = false := by
          cases h : (D.drop a).take 1232 with
          | nil => exact absurd h hne
          | cons _ _ => rfl
        simp only [e1, Bool.false_and, Bool.not_false, Bool.true_and, Bool.false_or]
        rw [decide_eq_false (show ¬ q.1 < (a : Int) + 1232 by omega)]
        simp
      · rintro p hp' hf q hq
        rcases List.mem_cons.1 hp' with rfl | h
        · cases hf
        · rcases List.mem_cons.1 hq with rfl | hq
          · rw [hp]
            have h1 := B.lo p h
            have : (0 : Int) <= p.2.2.length := by omega
            unfold pend; omega
          · exact B.good.last p h hf q hq
      · exact List.pairwise_cons.2 ⟨fun q _ => .inl rfl, B.good.one⟩
      · rw [zK, B.sum, hl]; omega
      · obtain ⟨p, h1, h2, h3⟩ := B.last
        exact ⟨p, List.mem_cons_of_mem _ h1, h2, h3⟩
      · rintro p hp' j hj
        rcases List.mem_cons.1 hp' with rfl | h
        · simp only [hl] at hj
          show D[(a : Int).toNat + j]? = ((D.drop a).take 1232)[j]?
          rw [List.getElem?_take, if_pos hj, List.getElem?_drop, Int.toNat_natCast]
        · exact B.get p h j hj
    · rename_i hm
      have hl : (D.drop a).length = D.length - a := List.length_drop
      have hp : pend ((a : Int), false, D.drop a) = (D.length : Int) := by
        show (a : Int) + ((D.drop a).length : Int) = _
        rw [hl]; omega
      have hne : D.drop a ≠ [] := fun e => by rw [e] at hl; simp at hl; omega
      show TI D [((a : Int), false, D.drop a)] a
      refine ⟨?_, ?_, ?_, ?_, ⟨?_, by simp, ?_, by simp⟩, ?_, ?_, ?_, ⟨_, List.mem_singleton.2 rfl, rfl⟩⟩
      · intro p h; rw [List.mem_singleton] at h; subst h; exact Int.le_refl _
      · intro p h; rw [List.mem_singleton] at h; subst h; rw [hp]; omega
      · intro p h; rw [List.mem_singleton] at h; subst h
        unfold Gp.Hol.may
        simp only [hl]
        rw [if_neg (by simp), if_neg (by omega)]
      · intro p h; rw [List.mem_singleton] at h; subst h; exact hne
      · intro p h; rw [List.mem_singleton] at h; subst h; exact ⟨by simp only; omega, by rw [hp]; omega, fun h => by cases h⟩
      · intro p h _ q hq; rw [List.mem_singleton] at h hq; subst h; subst hq; omega
      · rw [zK]
        show ((D.drop a).length : Int) + 0 = _
        rw [hl]; omega
      · exact ⟨_, List.mem_singleton.2 rfl, rfl, hp⟩
      · intro p h j hj; rw [List.mem_singleton] at h; subst h
        show D[(a : Int).toNat + j]? = (D.drop a)[j]?
        rw [List.getElem?_drop, Int.toNat_natCast]
section
variable {D : List UInt8} {L M : List Pc}
theorem Qo (B : TI D L 0) (hp : L.Perm M) : zO M = true := by
  have G := B.good.perm hp
  obtain ⟨p, h1, h2, h3⟩ := B.last
  have e := dO G.one (hp.mem_iff.1 h1) h2
  have s : sum M = (D.length : Int) := by rw [<- pq hp, B.sum]; omega
  unfold zO
  rw [e, h3, s]
  exact decide_eq_true ⟨by omega, rfl⟩
theorem NZ (B : TI D L 0) (hp : L.Perm M) {i : Nat} (hi : i < M.length) : zO (M.take i) = false := by
  have G := B.good.perm hp
  refine decide_eq_false fun ⟨h1, h2⟩ => ?_
  by_cases he : ∀ p ∈ M.take i, p.2.1 = true
  · rw [lX he] at h1; omega
  · simp only [Classical.not_forall] at he
    obtain ⟨p, hm, hf⟩ := he
    have hf : p.2.1 = false := by simpa using hf
    have Gt := G.sub (List.take_sublist i M)
    have e := dO Gt.one hm hf
    have hmM := List.mem_of_mem_take hm
    have el : pend p = (D.length : Int) := by
      obtain ⟨q, k1, k2, k3⟩ := B.last
      have kq := hp.mem_iff.1 k1
      have a1 := G.last p hmM hf q kq
      have a2 := G.last q kq k2 p hmM
      omega
    have es : sum M = (D.length : Int) := by rw [<- pq hp, B.sum]; omega
    have ed : sum M = sum (M.take i) + sum (M.drop i) := by
      rw [<- zW, List.take_append_drop]
    have hx : M.drop i = M[i] :: M.drop (i + 1) := List.drop_eq_getElem_cons hi
    have h3 : (0 : Int) < sum (M.drop i) := by
      rw [hx, zK]
      have hn := B.ne M[i] (hp.mem_iff.2 (List.getElem_mem hi))
      have : 0 < M[i].2.2.length := by
        cases h : M[i].2.2 with
        | nil => exact absurd h hn
        | cons _ _ => simp
      have := Gp.Hol.lW (M.drop (i + 1))
      omega
    rw [e, el] at h2
    omega
theorem Jy (B : TI D L 0) (hp : L.Perm M) {i : Nat} (hi : i < M.length) : add (M.take i) M[i] = (0, M.take (i + 1)) := by
  have e : M.take (i + 1) = M.take i ++ [M[i]] := by rw [List.take_add_one, List.getElem?_eq_getElem hi]; rfl
  rw [e]
  refine PV ?_ (B.may _ (hp.mem_iff.2 (List.getElem_mem hi)))
  rw [<- e]
  exact (B.good.perm hp).sub (List.take_sublist _ _)
theorem UO (B : TI D L 0) (hp : L.Perm M) {l : List Pc} (hl : l.Perm M) (hs : l.Pairwise le) : cat l = D := by
  have hpl : L.Perm l := hp.trans hl.symm
  have G := B.good.perm hpl
  obtain ⟨p, h1, h2, h3⟩ := B.last
  have e := dO G.one (hpl.mem_iff.1 h1) h2
  have s : sum l = (D.length : Int) := by rw [<- pq hpl, B.sum]; omega
  refine Vh G hs (by rw [e, h3]; omega) (by rw [e, h3, s]) (by rw [e, h3]) fun p hm k hk => B.get p (hpl.mem_iff.2 hm) k hk
def Ko (L : List Pc) : Bool := L.any fun p => decide (p.1 = 0)
def vS (L : List Pc) : Bf := ⟨0, if Ko L then ⟨#[4]⟩ else ⟨#[]⟩, Ko L, L⟩
def kC (k : Key) (L : List Pc) : Gp.Jn.JT := if L = [] then [] else [(k, vS L)]
theorem JC (B : TI D L 0) (hp : L.Perm M) (i : Nat) : sum (M.take i) <= (D.length : Int) := by
  have es : sum M = (D.length : Int) := by rw [<- pq hp, B.sum]; omega
  have ed : sum M = sum (M.take i) + sum (M.drop i) := by
    rw [<- zW, List.take_append_drop]
  have := Gp.Hol.lW (M.drop i)
  omega
theorem OB (k : Key) (l : List Pc) : yY (kC k l) = sum l := by
  unfold kC
  split
  · rename_i h; subst h; rfl
  · show (vS l |>.L |> sum) + 0 = _
    simp [vS]
theorem Fv (k : Key) (L : List Pc) : qM 4 (kC k L) k 0 = some (vS L) := by
  by_cases h : L = []
  · have ht : kC k L = [] := by unfold kC; rw [if_pos h]
    rw [ht, h]; rfl
  · have ht : kC k L = [(k, vS L)] := by unfold kC; rw [if_neg h]
    have : Jb [(k, vS L)] k = some (vS L) := by unfold Jb; rw [if_pos rfl]
    unfold qM
    rw [ht, this]
theorem Pm (B : TI D L 0) (hD : D.length <= 5000) (hp : L.Perm M) (k : Key) {i : Nat} (hi : i < M.length) :
    Fh 4 10000 (kC k (M.take i)) k M[i].1 M[i].2.1 M[i].2.2 ⟨#[4]⟩ 0 =
      if i + 1 = M.length then ⟨⟨#[4]⟩, true, 0, []⟩ else ⟨⟨#[]⟩, false, 0, kC k (M.take (i + 1))⟩ := by
  have hop := Fv k (M.take i)
  have hadd := Jy B hp hi
  have hx : ((M[i].1, M[i].2.1, M[i].2.2) : Pc) = M[i] := rfl
  have hroom : ¬ 10000 - yY (kC k (M.take i)) < room (vS (M.take i)).L M[i].1 M[i].2.2 := by
    rw [OB]
    have h1 := JC B hp i
    have h2 : (M[i].2.2.length : Int) <= D.length := by
      have := B.hi M[i] (hp.mem_iff.2 (List.getElem_mem hi))
      have := B.lo M[i] (hp.mem_iff.2 (List.getElem_mem hi))
      unfold pend at *; omega
    unfold room
    split <;> omega
  have hbeg : begin_ { vS (M.take i) with L := M.take (i + 1) } M[i].1 ⟨#[4]⟩ = vS (M.take (i + 1)) := by
    have e : M.take (i + 1) = M.take i ++ [M[i]] := by rw [List.take_add_one, List.getElem?_eq_getElem hi]; rfl
    have hh : Ko (M.take (i + 1)) = (Ko (M.take i) || decide (M[i].1 = 0)) := by
      rw [e]; unfold Ko; rw [List.any_append]; simp
    unfold begin_ vS
    rw [hh]
    by_cases h0 : M[i].1 = 0
    · cases hb : Ko (M.take i)
      · simp [h0]
      · simp [h0]
    · cases hb : Ko (M.take i)
      · simp [h0]
      · simp [h0]
  unfold Fh
  rw [hop]
  simp only
  unfold Vs
  rw [if_neg hroom]
  rw [show (vS (M.take i)).L = M.take i from rfl, hx, hadd]
  simp only [ne_eq, not_true_eq_false, if_false]
  by_cases hl : i + 1 = M.length
  · have ht : M.take (i + 1) = M := List.take_of_length_le (by omega)
    rw [if_pos hl, if_pos (by rw [ht]; exact Qo B hp), hbeg]
    have hd : Ko (M.take (i + 1)) = true := by
      rw [ht]
      refine List.any_eq_true.2 ?_
      obtain ⟨p, h1, h2⟩ := B.fst
      exact ⟨p, hp.mem_iff.1 h1, decide_eq_true (by simpa using h2)⟩
    have hdel : oP (kC k (M.take i)) k = [] := by
      unfold kC
      split
      · rfl
      · unfold oP; rw [if_pos rfl]
    rw [hdel]
    unfold vS
    rw [hd]; rfl
  · have hne : M.take (i + 1) ≠ [] := fun e => by
      have h0 : (M.take (i + 1)).length = 0 := by rw [e]; rfl
      rw [List.length_take] at h0; omega
    rw [if_neg hl, NZ B hp (by omega), if_neg (by simp), hbeg]
    have hup : zV (kC k (M.take i)) k (vS (M.take (i + 1))) = kC k (M.take (i + 1)) := by
      rw [show kC k (M.take (i + 1)) = [(k, vS (M.take (i + 1)))] by unfold kC; rw [if_neg hne]]
      unfold kC
      split
      · rfl
      · unfold zV; rw [if_pos rfl]
    rw [hup]
end
end Gp.Gets
end
section
namespace Go.Proofs
open Gp Gp.V4
set_option maxRecDepth 100000
set_option maxHeartbeats 1000000
theorem Nj (q : dZ) {p0 p1 p2 p3 p4 p5 p6 p7 p8 p9 p10 p11 p12 p13 p14 p15 p16 p17 p18 p19 p20 p21 p22 p23 p24 p25 p26 p27 p28 p29 p30 p31 : Int} {s : ah} (hs : s.len = q.data.length) (hc : q.check = 0) (w : World) : jJ q.tr q.fl q.nx q.hp p0 p1 p2 p3 p4 p5 p6 p7 p8 p9 p10 p11 p12 p13 p14 p15 p16 p17 p18 p19 p20 p21 p22 p23 p24 p25 p26 p27 p28 p29 p30 p31 s w fun r w' => r = 0 ∧ Ext w w' := by
  obtain ⟨⟨⟨fa, fb, fc⟩, fd, fe⟩, fl⟩ := fZ hc
  apply BM
  refine aK fun a w1 r1 e1 z1 f1 => ?_
  intro J
  have hJ : J false w1 := by
    show (bif false then _ else _)
    rw [cond_false]
    simp only [sx, r1.cell]
    rw [decide_eq_false (show ¬ (s.len : Int) > 65535 by omega), cond_false]
    exact ⟨by trivial, f1⟩
  clear_value J
  simp -zeta only [sx, r1.cell]
  refine dF (jH _ 1 w1) ?_
  rintro _ w2 ⟨rfl, hw⟩
  subst hw
  rw [decide_eq_true fa, Bool.not_true, cond_false]
  simp -zeta only [sx, r1.cell]
  refine dF (jH _ 1 w2) ?_
  rintro _ w3 ⟨rfl, hw⟩
  subst hw
  rw [decide_eq_true fb, Bool.not_true, cond_false]
  simp -zeta only [sx, r1.cell]
  refine dF (jH _ 1 w3) ?_
  rintro _ w4 ⟨rfl, hw⟩
  subst hw
  rw [decide_eq_true fc, Bool.not_true, cond_false]
  simp -zeta only [sx, r1.cell]
  rw [decide_eq_false (show ¬ q.fl < 0 by omega), cond_false, decide_eq_false (show ¬ q.fl >= 1048576 by omega)]
  exact hJ
theorem Oa {w : World} {q : dZ} {t0 t1 t2 t3 p0 p1 p2 p3 p4 p5 p6 p7 p8 p9 p10 p11 p12 p13 p14 p15 p16 p17 p18 p19 p20 p21 p22 p23 p24 p25 p26 p27 p28 p29 p30 p31 : Int} {s : ah} (h : vF w q t0 t1 t2 t3 [p0, p1, p2, p3, p4, p5, p6, p7, p8, p9, p10, p11, p12, p13, p14, p15] [p16, p17, p18, p19, p20, p21, p22, p23, p24, p25, p26, p27, p28, p29, p30, p31] s) (hc : q.check = 0) :
    jP t0 t1 t2 t3 p0 p1 p2 p3 p4 p5 p6 p7 p8 p9 p10 p11 p12 p13 p14 p15 p16 p17 p18 p19 p20 p21 p22 p23 p24 p25 p26 p27 p28 p29 p30 p31 s w fun r e w' => e = 0 ∧ aS w' r q.bytes ∧ yX w r ∧ Ext w w' := by
  obtain ⟨⟨rfl, rfl, rfl, rfl⟩, hsrc, hdst, hdata⟩ := h
  obtain ⟨hf, hdl⟩ := fZ hc
  obtain ⟨⟨g1, g2, g3⟩, g4, g5⟩ := id hf
  have hlen := hdata.1
  apply D9
  refine aK fun a w1 r1 e1 z1 f1 => ?_
  simp -zeta only [sx, r1.cell]
  refine BK (Nj q hlen hc w1) ?_
  rintro _ w2 ⟨rfl, f2⟩
  have r2 := r1.ext f2
  rw [show ((0 : Int) != 0) = false from rfl, cond_false]
  simp -zeta only [sx, r2.cell]
  have k1 := mP g1
  have hfirst : IntKind.i64.wrap (IntKind.i64.wrap (1610612736 + IntKind.i64.wrap (q.tr * 1048576)) + q.fl) = (q.first : Int) := by
    unfold dZ.first
    have e1 : IntKind.i64.wrap (q.tr * 1048576) = q.tr * 1048576 := wrap_i64 (by omega) (by omega)
    have e2 : IntKind.i64.wrap (1610612736 + q.tr * 1048576) = 1610612736 + q.tr * 1048576 := wrap_i64 (by omega) (by omega)
    rw [e1, e2, wrap_i64 (by omega) (by omega)]
    omega
  rw [hfirst]
  refine bD (n_ aS.nil (by simp) _ 4 (by unfold dZ.first; omega)) ?_
  rintro t3 w3 ⟨b3, f3, n3⟩
  rw [show (4 : Int) = ((4 : Nat) : Int) from rfl, mO (by omega) (by unfold dZ.first; omega), List.nil_append] at b3
  intro J
  have x3 := f2.trans f3
  have r3 := (r1.ext x3).drew
  have b3 : Buf w3.drew t3 (bytesV (dK 4 q.first)) := b3.ext (Ext.drew w3)
  have x3 := x3.trans (Ext.drew w3)
  have zn3 : ∀ b, ah.at t3 b -> w1.heap.size <= b := fun b hb => by have := n3 b hb; have := f2.size; omega
  generalize w3.drew = w3 at b3 x3 r3 ⊢
  have u2 : [Value.int .u8 (IntKind.u8.wrap q.nx), .int .u8 (IntKind.u8.wrap q.hp)] = bytesV [UInt8.ofNat q.nx.toNat, UInt8.ofNat q.hp.toNat] := by
    rw [BF g2, BF g3]; rfl
  have hJ : ∀ t W, Buf W t (bytesV (dK 4 q.first ++ dK 2 q.data.length ++ [UInt8.ofNat q.nx.toNat, UInt8.ofNat q.hp.toNat])) -> (∀ b, ah.at t b -> w1.heap.size <= b) -> Ext w1 W -> J t W := by
    intro t W hb hn hx
    show lZ _ _ _ _ _ _
    have hx := hx.trans (Ext.drew W)
    have hb : Buf W.drew t (bytesV q.head) := hb.ext (Ext.drew W)
    generalize W.drew = w7 at hx hb ⊢
    have r17 := r1.ext hx
    have hsl : bytesV q.src = [.int .u8 p0, .int .u8 p1, .int .u8 p2, .int .u8 p3, .int .u8 p4, .int .u8 p5, .int .u8 p6, .int .u8 p7, .int .u8 p8, .int .u8 p9, .int .u8 p10, .int .u8 p11, .int .u8 p12, .int .u8 p13, .int .u8 p14, .int .u8 p15] := by rw [oJ, <- hsrc]; rfl
    have hdl' : bytesV q.dst = [.int .u8 p16, .int .u8 p17, .int .u8 p18, .int .u8 p19, .int .u8 p20, .int .u8 p21, .int .u8 p22, .int .u8 p23, .int .u8 p24, .int .u8 p25, .int .u8 p26, .int .u8 p27, .int .u8 p28, .int .u8 p29, .int .u8 p30, .int .u8 p31] := by rw [oJ, <- hdst]; rfl
    have ls : q.src.length = 16 := by have := congrArg List.length hsrc; simp [bi] at this; exact this.symm
    have ld : q.dst.length = 16 := by have := congrArg List.length hdst; simp [bi] at this; exact this.symm
    have hs7 : aS w7 ⟨some ⟨a, 4, none⟩, 16, 16⟩ q.src := rU (o := 4) r17 (A := [.int .i64 q.tr, .int .i64 q.fl, .int .i64 q.nx, .int .i64 q.hp]) (C := [.int .u8 p16, .int .u8 p17, .int .u8 p18, .int .u8 p19, .int .u8 p20, .int .u8 p21, .int .u8 p22, .int .u8 p23, .int .u8 p24, .int .u8 p25, .int .u8 p26, .int .u8 p27, .int .u8 p28, .int .u8 p29, .int .u8 p30, .int .u8 p31] ++ [.slice s.a s.len s.cap]) (by rw [hsl]; rfl) rfl ls.symm
    have hd7 : aS w7 ⟨some ⟨a, 20, none⟩, 16, 16⟩ q.dst := rU (o := 20) r17 (A := [.int .i64 q.tr, .int .i64 q.fl, .int .i64 q.nx, .int .i64 q.hp] ++ [.int .u8 p0, .int .u8 p1, .int .u8 p2, .int .u8 p3, .int .u8 p4, .int .u8 p5, .int .u8 p6, .int .u8 p7, .int .u8 p8, .int .u8 p9, .int .u8 p10, .int .u8 p11, .int .u8 p12, .int .u8 p13, .int .u8 p14, .int .u8 p15]) (C := [.slice s.a s.len s.cap]) (by rw [hdl']; rfl) (by simp) ld.symm
    have hh := rE q
    refine nM (nM ?_)
    refine bC hb hs7 (by omega) fun t8 w8 b8 f8 n8 _ => ?_
    have hx8 := hx.new f8 fun y hy e => by have := hn y e; omega
    have k8 : ∀ b, ah.at t8 b -> w1.heap.size <= b := fun b hb' => by
      rcases n8 b hb' with g | g
      · exact hn b g
      · have := hx.size; omega
    have hd8 : aS w8 ⟨some ⟨a, 20, none⟩, 16, 16⟩ q.dst := hd7.fr f8 fun p hp _ e => by cases hp; have := hn a e; omega
    refine bC (l := q.head ++ q.src) (by exact b8) hd8 (by rw [List.length_append]; omega) fun t9 w9 b9 f9 n9 _ => ?_
    have hx9 := hx8.new f9 fun y hy e => by have := k8 y e; omega
    have k9 : ∀ b, ah.at t9 b -> w1.heap.size <= b := fun b hb' => by
      rcases n9 b hb' with g | g
      · exact k8 b g
      · have := hx8.size; omega
    have r9 := r1.ext hx9
    simp only [sx, r9.cell]
    refine bC (l := q.head ++ q.src ++ q.dst) (by exact b9) (hdata.ext (f1.trans hx9)) (by rw [List.length_append, List.length_append]; omega) fun t10 w10 b10 f10 n10 _ => ?_
    have hx10 := hx9.new f10 fun y hy e => by have := k9 y e; omega
    have k10 : ∀ b, ah.at t10 b -> w1.heap.size <= b := fun b hb' => by
      rcases n10 b hb' with g | g
      · exact k9 b g
      · have := hx9.size; omega
    have z1' := f1.size
    refine ⟨by trivial, ?_, uV b10 fun y hy => by have := k10 y hy; omega, f1.trans hx10⟩
    have e : q.head ++ q.src ++ q.dst ++ q.data = q.bytes := by unfold dZ.bytes; simp
    rw [e] at b10
    exact aS.aV b10
  clear_value J
  simp -zeta only [sx, r3.cell]
  refine ⟨?_, ?_⟩
  · refine bD (n_ (aS.aV b3) (by rw [aP]; omega) _ 2 (by omega)) ?_
    rintro t4 w4 ⟨b4, f4, n4⟩
    rw [hlen, show (2 : Int) = ((2 : Nat) : Int) from rfl, mO (by omega) (by omega)] at b4
    have x4 := x3.trans f4
    have r4 := r1.ext x4
    simp -zeta only [sx, r4.cell, true_and]
    refine aK fun c w5 r5 e5 z5 f5 => ?_
    rw [u2] at r5
    have r45 := r4.ext f5
    simp -zeta only [sx, r45.cell, true_and]
    refine bC (b4.ext f5) (aS.aV (aS.row (l := [UInt8.ofNat q.nx.toNat, UInt8.ofNat q.hp.toNat]) r5)) (by simp [aP]) fun t6 w6 b6 f6 n6 _ => ?_
    have x5 := x4.trans f5
    have s3 := x3.size
    refine hJ _ _ b6 (fun b hb => ?_) (x5.new f6 fun y hy e => by have := n4 y e; omega)
    rcases n6 b hb with g | g
    · have := n4 b g; omega
    · have := x5.size; omega
  · refine aK fun c w4 r4 e4 z4 f4 => ?_
    rw [u2] at r4
    have x4 := x3.trans f4
    have r14 := r1.ext x4
    simp -zeta only [sx, r14.cell, true_and]
    refine bD (n_ (aS.aV (b3.ext f4)) (by rw [aP]; omega) _ 2 (by omega)) ?_
    rintro t5 w5 ⟨b5, f5, n5⟩
    rw [hlen, show (2 : Int) = ((2 : Nat) : Int) from rfl, mO (by omega) (by omega)] at b5
    have x5 := x4.trans f5
    have r15 := r1.ext x5
    simp -zeta only [sx, r15.cell, true_and]
    refine bC b5 (aS.aV (aS.row (l := [UInt8.ofNat q.nx.toNat, UInt8.ofNat q.hp.toNat]) (r4.ext f5))) (by simp [aP]) fun t6 w6 b6 f6 n6 _ => ?_
    have s4 := x4.size
    refine hJ _ _ b6 (fun b hb => ?_) (x5.new f6 fun y hy e => by have := n5 y e; omega)
    rcases n6 b hb with g | g
    · have := n5 b g; omega
    · have := x5.size; omega
end Go.Proofs
end
section
namespace Go.Proofs
open Gp Gp.V4 Gp.Hol Gp.Jn
set_option maxRecDepth 100000
set_option maxHeartbeats 1000000
theorem SA {w : World} {s : ah} {l : List UInt8} (hs : aS w s l) (hl : l.length <= 2 ^ 40) (h8 : 8 <= l.length) :
    iV s w fun nx off id more r e w' => e = 0 ∧ nx = (num l 0 1 : Int) ∧ off = ((num l 2 2 / 8 * 8 : Nat) : Int) ∧ id = (num l 4 4 : Int) ∧ more = ((nN .i64 (num l 2 2 : Int) 1) == 1) ∧ aS w' r (l.drop 8) ∧ yX w r ∧ Ext w w' := by
  apply AY
  have hlen := hs.1
  refine aK fun a w1 r1 e1 z1 f1 => ?_
  have h8' : ¬ (s.len : Int) < 8 := by omega
  rw [decide_eq_false h8', cond_false]
  refine qP (C_ (hs.ext f1) (by omega) 2 2) ?_
  rintro n2 e2 w2 ⟨hw, hg2⟩
  subst hw
  have hn2 := yg (at_ := 2) (k := 2) (by omega) (by omega) hg2
  refine qP (C_ (hs.ext f1) (by omega) 4 4) ?_
  rintro n4 e4 w3 ⟨hw, hg4⟩
  subst hw
  subst hn2
  have hn4 := yg (at_ := 4) (k := 4) (by omega) (by omega) hg4
  subst hn4
  have l2 : num l 2 2 < 65536 := oq l 2
  refine byte_at (hs.ext f1) (i := 0) (by omega) fun a0 c0 k0 => ?_
  simp only [sx, c0]
  refine aK fun d w4 r4 e4 z4 f4 => ?_
  refine aT r4 rfl rfl fun w5 r5 f5 z5 => ?_
  have f5d := f5 (· = d) rfl
  have z1' := f1.size
  have x5 : Ext w3 w5.drew := (f4.new f5d fun y hy e => by omega).trans (Ext.drew w5)
  have r5d := r5.drew
  simp only [sx, r5d.cell]
  refine fK ((hs.ext f1).ext x5) (by omega) (by omega) (by omega) fun s6 hs6 _ => ?_
  rw [Int.toNat_natCast, hlen, List.take_of_length_le (Nat.le_refl _)] at hs6
  have hs6 : aS w5.drew s6 (l.drop 8) := hs6
  refine aI (iZ hs6 (by rw [List.length_drop]; omega)) ?_
  rintro r7 w7 ⟨b7, _, f7, n7⟩
  simp only [true_and, List.getElem?_cons_zero, List.getElem?_cons_succ, (r5d.ext f7).cell]
  have x7 := x5.trans f7
  have z7 := x5.size
  refine aT (r1.ext x7) rfl rfl fun w8 r8 f8 z8 => ?_
  have f8a := f8 (· = a) rfl
  simp only [List.getElem?_cons_zero, List.getElem?_cons_succ, aj, au, aJ, r8.cell]
  have k1 : IntKind.i64.wrap (l[0].toNat : Int) = (num l 0 1 : Int) := by
    have := l[0].toNat_lt
    rw [wrap_i64 (by omega) (by omega), G7 (by omega)]
  have fx : Ext w w8 := (f1.trans x7).new f8a fun y hy e => by omega
  exact ⟨k1, Ul (by omega), by trivial, by trivial, aS.aV (b7.fr f8a fun c hc e => by have := n7 c hc; omega), uV (b7.fr f8a fun c hc e => by have := n7 c hc; omega) fun c hc => by have := n7 c hc; omega, fx⟩
theorem Tn {a b c : List UInt8} {n : Nat} (hn : a.length = n) : num (a ++ (b ++ c)) n b.length = fF b := by
  unfold num
  rw [List.drop_append_of_le_length (by omega), List.drop_of_length_le (by omega), List.nil_append, List.take_left']
  rfl
theorem QI {off : Nat} {more : Bool} {D : List UInt8} (h8 : off % 8 = 0) (ho : off < 65528) : num (lC 4 off more 77 ++ D) 0 1 = 4 ∧ num (lC 4 off more 77 ++ D) 2 2 / 8 * 8 = off ∧ num (lC 4 off more 77 ++ D) 4 4 = 77 ∧ ((nN .i64 (num (lC 4 off more 77 ++ D) 2 2 : Int) 1) == 1) = more := by
  have h2 : num (lC 4 off more 77 ++ D) 2 2 = off + if more then 1 else 0 := by
    have := Tn (a := [UInt8.ofNat 4, 0]) (b := dK 2 (off + if more then 1 else 0)) (c := dK 4 77 ++ D) (n := 2) rfl
    rw [aP] at this
    unfold lC
    rw [List.append_assoc, List.append_assoc, this, qW, Nat.mod_eq_of_lt (by split <;> omega)]
  have h4 : num (lC 4 off more 77 ++ D) 4 4 = 77 := by
    have := Tn (a := [UInt8.ofNat 4, 0] ++ dK 2 (off + if more then 1 else 0)) (b := dK 4 77) (c := D) (n := 4) (by simp [aP])
    rw [aP] at this
    unfold lC
    rw [List.append_assoc, this, qW]
  refine ⟨by unfold lC num fF; simp, ?_, h4, ?_⟩
  · rw [h2]; split <;> omega
  · rw [h2]
    have := uO (a := off + if more then 1 else 0) (b := 1) (by split <;> omega) (by omega)
    rw [show ((1 : Nat) : Int) = 1 from rfl] at this
    rw [this, show (1 : Nat) = 2 ^ 1 - 1 from rfl, vw]
    cases more
    · rw [show (off + if false = true then 1 else 0) = off from rfl, show off % 2 ^ 1 = 0 by omega]; rfl
    · rw [show (off + if true = true then 1 else 0) = off + 1 from rfl, show (off + 1) % 2 ^ 1 = 1 by omega]; rfl
structure Ws (q : dZ) (off : Nat) (more : Bool) (D : List UInt8) : Prop where
  nx : q.nx = 44
  data : q.data = lC 4 off more 77 ++ D
  h8 : off % 8 = 0
  lt : off < 65528
  len : D.length <= 65535
theorem S9 {w : World} {q : dZ} {t0 t1 t2 t3 p0 p1 p2 p3 p4 p5 p6 p7 p8 p9 p10 p11 p12 p13 p14 p15 p16 p17 p18 p19 p20 p21 p22 p23 p24 p25 p26 p27 p28 p29 p30 p31 : Int} {s : ah} (h : vF w q t0 t1 t2 t3 [p0, p1, p2, p3, p4, p5, p6, p7, p8, p9, p10, p11, p12, p13, p14, p15] [p16, p17, p18, p19, p20, p21, p22, p23, p24, p25, p26, p27, p28, p29, p30, p31] s) {off : Nat} {more : Bool} {D : List UInt8} (hq : Ws q off more D) :
    nJ t0 t1 t2 t3 p0 p1 p2 p3 p4 p5 p6 p7 p8 p9 p10 p11 p12 p13 p14 p15 p16 p17 p18 p19 p20 p21 p22 p23 p24 p25 p26 p27 p28 p29 p30 p31 s w fun nx o id m r ok w' => nx = 4 ∧ o = (off : Int) ∧ id = 77 ∧ m = more ∧ ok = true ∧ aS w' r D ∧ Ext w w' := by
  obtain ⟨⟨rfl, rfl, rfl, rfl⟩, hsrc, hdst, hdata⟩ := h
  apply Ik
  refine aK fun a w1 r1 e1 z1 f1 => aK fun b w2 r2 e2 z2 f2 => ?_
  have r1' := r1.ext f2
  have z1' := f1.size
  simp only [sx, r1'.cell]
  rw [show (q.nx != 44) = false by simpa using hq.nx, cond_false]
  have hl : q.data.length = 8 + D.length := by rw [hq.data, List.length_append, lG]
  have hle := hq.len
  refine AV (SA ((hdata.ext f1).ext f2) (by omega) (by omega)) ?_
  rintro i0 i1 i2 i3 r e w3 ⟨he, k0, k1, k2, k3, hb, hn, f3⟩
  subst he
  refine aK fun c w4 r4 e4 z4 f4 => ?_
  have z4' := f4.size
  have z3' := f3.size
  refine aT r4 rfl rfl fun w5 r5 f5 z5 => ?_
  have x35 : Ext w3 w5 := f4.new (f5 (· = c) rfl) fun y hy e => by omega
  simp only [sx, r5.cell]
  refine aT (r2.ext (f3.trans x35)) rfl rfl fun w6 r6 f6 z6 => ?_
  have f6b := f6 (· = b) rfl
  simp only [sx, r6.cell]
  obtain ⟨m0, m1, m2, m3⟩ := QI (more := more) (D := D) hq.h8 hq.lt
  rw [hq.data] at k0 k1 k2 k3 hb
  rw [m0] at k0; rw [m1] at k1; rw [m2] at k2; rw [m3] at k3
  rw [List.drop_append_of_le_length (by rw [lG]; omega), List.drop_of_length_le (by rw [lG]; omega), List.nil_append] at hb
  exact ⟨k0, k1, k2, k3, by trivial, (hb.ext x35).fr f6b fun p hp _ e => by have := hn p hp; omega, (f1.trans (f2.trans (f3.trans x35))).new f6b fun y hy e => by omega⟩
def xw (q : dZ) : List UInt8 := 54 :: (q.src ++ (q.dst ++ dK 4 77))
theorem key_ok {w : World} {q : dZ} {t0 t1 t2 t3 p0 p1 p2 p3 p4 p5 p6 p7 p8 p9 p10 p11 p12 p13 p14 p15 p16 p17 p18 p19 p20 p21 p22 p23 p24 p25 p26 p27 p28 p29 p30 p31 : Int} {s : ah} (h : vF w q t0 t1 t2 t3 [p0, p1, p2, p3, p4, p5, p6, p7, p8, p9, p10, p11, p12, p13, p14, p15] [p16, p17, p18, p19, p20, p21, p22, p23, p24, p25, p26, p27, p28, p29, p30, p31] s) :
    nK t0 t1 t2 t3 p0 p1 p2 p3 p4 p5 p6 p7 p8 p9 p10 p11 p12 p13 p14 p15 p16 p17 p18 p19 p20 p21 p22 p23 p24 p25 p26 p27 p28 p29 p30 p31 s 77 w fun b w' => b = ⟨⟨xw q⟩⟩ ∧ Ext w w' := by
  obtain ⟨⟨rfl, rfl, rfl, rfl⟩, hsrc, hdst, hdata⟩ := h
  apply Qj
  refine aK fun a w1 r1 e1 z1 f1 => ?_
  refine nM (nM ?_)
  refine aK fun c w2 r2 e2 z2 f2 => aK fun g w7 r7 e7 z7 f7 => ?_
  have f2 : Ext w1 w2 := (Ext.drew w1).trans f2
  have r17 := (r1.ext f2).ext f7
  have hsl : bytesV q.src = [.int .u8 p0, .int .u8 p1, .int .u8 p2, .int .u8 p3, .int .u8 p4, .int .u8 p5, .int .u8 p6, .int .u8 p7, .int .u8 p8, .int .u8 p9, .int .u8 p10, .int .u8 p11, .int .u8 p12, .int .u8 p13, .int .u8 p14, .int .u8 p15] := by rw [oJ, <- hsrc]; rfl
  have hdl' : bytesV q.dst = [.int .u8 p16, .int .u8 p17, .int .u8 p18, .int .u8 p19, .int .u8 p20, .int .u8 p21, .int .u8 p22, .int .u8 p23, .int .u8 p24, .int .u8 p25, .int .u8 p26, .int .u8 p27, .int .u8 p28, .int .u8 p29, .int .u8 p30, .int .u8 p31] := by rw [oJ, <- hdst]; rfl
  have ls : q.src.length = 16 := by have := congrArg List.length hsrc; simp [bi] at this; exact this.symm
  have ld : q.dst.length = 16 := by have := congrArg List.length hdst; simp [bi] at this; exact this.symm
  have hs7 : aS w7 ⟨some ⟨a, 4, none⟩, 16, 16⟩ q.src := rU (o := 4) r17 (A := [.int .i64 q.tr, .int .i64 q.fl, .int .i64 q.nx, .int .i64 q.hp]) (C := [.int .u8 p16, .int .u8 p17, .int .u8 p18, .int .u8 p19, .int .u8 p20, .int .u8 p21, .int .u8 p22, .int .u8 p23, .int .u8 p24, .int .u8 p25, .int .u8 p26, .int .u8 p27, .int .u8 p28, .int .u8 p29, .int .u8 p30, .int .u8 p31] ++ [.slice s.a s.len s.cap]) (by rw [hsl]; rfl) rfl ls.symm
  have hd7 : aS w7 ⟨some ⟨a, 20, none⟩, 16, 16⟩ q.dst := rU (o := 20) r17 (A := [.int .i64 q.tr, .int .i64 q.fl, .int .i64 q.nx, .int .i64 q.hp] ++ [.int .u8 p0, .int .u8 p1, .int .u8 p2, .int .u8 p3, .int .u8 p4, .int .u8 p5, .int .u8 p6, .int .u8 p7, .int .u8 p8, .int .u8 p9, .int .u8 p10, .int .u8 p11, .int .u8 p12, .int .u8 p13, .int .u8 p14, .int .u8 p15]) (C := [.slice s.a s.len s.cap]) (by rw [hdl']; rfl) (by simp) ld.symm
  have hc7 : aS w7 ⟨some ⟨c, 0, none⟩, 1, 1⟩ [54] := .aV (aS.row (l := [54]) (r2.ext f7))
  have hparts : Parts w7 ⟨some ⟨g, 0, none⟩, 3, 3⟩ [(⟨some ⟨c, 0, none⟩, 1, 1⟩, [54]), (⟨some ⟨a, 4, none⟩, 16, 16⟩, q.src), (⟨some ⟨a, 20, none⟩, 16, 16⟩, q.dst)] := by
    refine ⟨rfl, fun i p hp => ?_⟩
    refine ⟨g, 0, rfl, ?_⟩
    rw [Nat.zero_add, r7.cell]
    match i, hp with
    | 0, hp => cases hp; exact ⟨rfl, hc7⟩
    | 1, hp => cases hp; exact ⟨rfl, hs7⟩
    | 2, hp => cases hp; exact ⟨rfl, hd7⟩
    | n + 3, hp => simp at hp
  refine iW (FI hparts (by simp) fun p hp => ?_) ?_
  · simp only [List.mem_cons, List.not_mem_nil, or_false] at hp
    rcases hp with rfl | rfl | rfl <;> simp only [List.length_cons, List.length_nil] <;> omega
  · rintro r8 w8 ⟨b8, f8, n8⟩
    have e8 : uI [((⟨some ⟨c, 0, none⟩, 1, 1⟩ : ah), [(54 : UInt8)]), (⟨some ⟨a, 4, none⟩, 16, 16⟩, q.src), (⟨some ⟨a, 20, none⟩, 16, 16⟩, q.dst)] = 54 :: (q.src ++ q.dst) := by
      unfold uI; simp
    rw [e8] at b8
    refine lV (xB (aS.aV b8) (by simp only [List.length_cons, List.length_append]; omega) 77 4) ?_
    rintro r9 w9 ⟨b9, f9, n9⟩
    rw [show (4 : Int) = ((4 : Nat) : Int) from rfl, show (77 : Int) = ((77 : Nat) : Int) from rfl, mO (by omega) (by omega)] at b9
    refine iD (aS.aV b9) ?_
    refine ⟨?_, f1.trans (f2.trans (f7.trans (f8.trans f9)))⟩
    unfold xw
    simp
theorem NI (w : World) : nP 0 w fun r w' => r = 0 ∧ w' = w := by
  apply Ja
  exact ⟨rfl, rfl⟩
structure ES (w : World) (x ct l t m : Nat) (cs : List Int) (rs : List (Key × JE)) : Prop where
  bw : BW w x ct l 1280 ⟨t, 0, none⟩ 1 cs
  jt : FV w t m 4 10000 60 rs
  xt : x ≠ t
  xm : x ≠ m
  ct_ : ct ≠ t
  cm : ct ≠ m
  lt : l ≠ t
  lm : l ≠ m
  ap : ∀ e ∈ rs, ∀ z, xE e.2.1 z -> z ≠ x ∧ z ≠ ct ∧ z ≠ l
theorem ES.ext {w w' : World} {x ct l t m : Nat} {cs : List Int} {rs : List (Key × JE)} (h : ES w x ct l t m cs rs) (f : Ext w w') : ES w' x ct l t m cs rs :=
  ⟨h.bw.ext f, h.jt.ext f, h.xt, h.xm, h.ct_, h.cm, h.lt, h.lm, h.ap⟩
theorem Rq {w : World} {x ct l : Nat} {mtu : Int} {tb : Addr} {id : Int} {cs : List Int} (h : BW w x ct l mtu tb id cs) : bJ (some ⟨x, 0, none⟩) 0 w fun e w' => e = 0 ∧ w' = w := by
  apply wG
  simp only [sx, h.hd.cell]
  refine tY (K := fun _ w' => w' = w) ?_ fun _ _ h => ⟨by trivial, h⟩
  apply mV
  intro J3
  have hJ : J3 true w := rfl
  clear_value J3
  refine tu (K := fun r w' => r = true ∧ w' = w) ?_ ?_
  · apply nS
    simp only [sx, Option.isNone_some, Bool.not_false, cond_true, h.cr.cell]
    exact ⟨by trivial, by trivial⟩
  · rintro r w' ⟨rfl, hw⟩
    subst hw
    exact hJ
theorem Ru (w : World) : lN 4 10000 60 w fun p e w' => e = 0 ∧ (∃ t m : Nat, p = some ⟨t, 0, none⟩ ∧ FV w' t m 4 10000 60 [] ∧ w.heap.size <= t ∧ w.heap.size <= m ∧ t < w'.heap.size ∧ m < w'.heap.size) ∧ Ext w w' := by
  apply Ak
  intro J4
  have hJ : J4 false w := by
    simp only [J4, cond_false, Al]
    have s1 : (w.alloc (.map #[] 0)).heap.size = w.heap.size + 1 := by simp
    refine ⟨by trivial, ⟨_, w.heap.size, rfl, ⟨Row.new _ _ _, (nX.new w yM Pz).fr (bF.alloc _ _ (fun _ => False)) (by simp), by simp, by simp, by simp, by omega, by simp⟩, by omega, by omega, ?_, ?_⟩, fun S => (bF.alloc w _ S).trans (bF.alloc _ _ S) fun _ _ e => e⟩
    · simp
    · rw [World.size_alloc, s1]; omega
  clear_value J4
  refine uU (by omega) ⟨true, rfl, ?_⟩
  rw [Bool.not_true, cond_false]
  refine uU (by omega) ⟨true, rfl, ?_⟩
  rw [Bool.not_true, cond_false]
  refine uU (by omega) ⟨true, rfl, ?_⟩
  rw [Bool.not_true]
  exact hJ
theorem UH (w : World) : pJ 32 2 0 0 0 0 0 0 0 0 0 0 0 0 0 0 32 1 0 0 0 0 0 0 0 0 0 0 0 0 0 0 1280 64 4 10000 60 w fun p e w' => e = 0 ∧ (∃ x ct l t m, p = some ⟨x, 0, none⟩ ∧ ES w' x ct l t m (List.replicate 14 0) [] ∧ w.heap.size <= x ∧ w.heap.size <= ct ∧ w.heap.size <= l ∧ w.heap.size <= t ∧ w.heap.size <= m) ∧ Ext w w' := by
  apply FT
  refine aK fun a w1 r1 e1 z1 f1 => ?_
  simp only [sx, r1.cell]
  refine rZ (RZ (m := 1280) (by omega) w1) ?_
  rintro _ w2 ⟨rfl, f2⟩
  have r2 := r1.ext f2
  rw [Bool.not_true, cond_false]
  simp only [List.getElem?_cons_zero, List.getElem?_cons_succ, aj, au, r2.cell]
  refine Aa (Ru w2) ?_
  rintro p e w3 ⟨rfl, ⟨t, m, rfl, jt, jt1, jm1, jt2, jm2⟩, f3⟩
  have r3 := (r2.ext f3).drew
  rw [show ((0 : Int) != 0) = false from rfl, cond_false]
  simp only [List.getElem?_cons_zero, List.getElem?_cons_succ, aj, au, r3.cell]
  refine wK (OL w3.drew) ?_
  rintro p w4 ⟨⟨ct, l, rfl, rc, rl, h1, h2, h3⟩, f4⟩
  have r4 := r3.ext f4
  simp only [true_and, List.getElem?_cons_zero, List.getElem?_cons_succ, r4.cell]
  refine aK fun x w5 r5 e5 z5 f5 => ?_
  have s1 := f1.size
  have s2 := f2.size
  have s3 := f3.size
  have s4 := f4.size
  have zd : w3.drew.heap.size = w3.heap.size := rfl
  have jt := ((jt.ext (Ext.drew w3)).ext f4).ext f5
  exact ⟨⟨x, ct, l, t, m, rfl, ⟨⟨r5, rc.ext f5, rl.ext f5, rfl, by omega, by omega, by omega⟩, jt, by omega, by omega, by omega, by omega, by omega, by omega, by simp⟩, by omega, by omega, by omega, by omega, by omega⟩, ((((f1.trans f2).trans f3).trans (Ext.drew w3)).trans f4).trans f5⟩
def UY (w : World) (r : ah) (b : List UInt8) : Prop := ∃ c s', r = ⟨some ⟨c, 0, none⟩, 1, 1⟩ ∧ Row w c [.slice s'.a s'.len s'.cap] ∧ aS w s' b
theorem Pj {w : World} (p : dL) {o d : ah} (ho : aS w o p.opts) (hd : aS w d p.data) (h1 : p.opts.length <= 2 ^ 46) (h2 : p.data.length <= 2 ^ 46) (hc : p.check = 0) :
    jR p.tos p.id p.off p.ttl p.proto p.src p.dst p.df p.mf o d 0 w fun r w' => UY w' r p.bytes ∧ Ext w w' := by
  apply Ag
  refine aK fun a w1 r1 e1 z1 f1 => ?_
  rw [show ((0 : Int) != 0) = false from rfl, cond_false]
  simp only [sx, r1.cell]
  refine qj (yu p (ho.ext f1) (hd.ext f1) h1 h2) ?_
  rintro r e w2 ⟨rfl, _, hb, f2, _⟩
  rw [hc]
  refine DL (K := fun r w' => UY w' r p.bytes ∧ Ext w w') ?_ fun _ _ h => h
  apply Ci
  rw [show ((0 : Int) != 0) = false from rfl, cond_false]
  refine aK fun c w3 r3 e3 z3 f3 => ?_
  exact ⟨⟨c, r, rfl, r3, (aS.aV (hb hc)).ext f3⟩, f1.trans (f2.trans f3)⟩
end Go.Proofs
end
section
namespace Go.Proofs
open Gp Gp.V4 Gp.Hol Gp.Jn
set_option maxRecDepth 100000
set_option maxHeartbeats 1000000
abbrev hd4 : ByteArray := ⟨#[4]⟩
structure VG (w w' : World) (x ct l t m : Nat) (cs : List Int) (rs : List (Key × JE)) (N : Nat) (o : Gp.Jn.Out) (k : Key) (off : Nat) (more : Bool) (D : List UInt8) (all : ah) (nx why : Int) (ok : Bool) : Prop where
  why : why = 0
  ok : ok = o.done
  all : o.done = true -> nx = 4 ∧ ∃ y L, qM 4 (iM rs) k 0 = some y ∧ L.Perm (Hol.add y.L ((off : Int), more, D)).2 ∧ L.Pairwise le ∧ aS w' all (cat L)
  tab : ∃ rs', ES w' x ct l t m cs rs' ∧ iM rs' = o.l ∧ (∀ e ∈ rs', e.2.1.l.length <= N + 1) ∧ ∀ e ∈ rs', ∀ z, xE e.2.1 z -> (∃ y ∈ rs, xE y.2.1 z) ∨ w.heap.size <= z
  fr : bF w w' fun z => z = m ∨ ∃ y ∈ rs, xE y.2.1 z
theorem ES.Wu {w : World} {x ct l t m : Nat} {cs : List Int} {rs : List (Key × JE)} (h : ES w x ct l t m cs rs) : x < w.heap.size ∧ ct < w.heap.size ∧ l < w.heap.size := ⟨h.bw.hd.lt, h.bw.cr.lt, h.bw.ls.lt⟩
theorem VG.of {w W w' : World} {x ct l t m : Nat} {cs : List Int} {rs : List (Key × JE)} (E : ES w x ct l t m cs rs) (hx : Ext w W) {N : Nat} {o : Gp.Jn.Out} {k : Key} {off : Nat} {more : Bool} {D : List UInt8} {hd : ByteArray} {all : ah} {done : Bool} {e : Int}
    (h : TW W w' t m 4 10000 60 rs N o k off more D 0 hd all done e) {nx : Int} (hn : o.done = true -> nx = 4) {all' : ah} (ha : o.done = true -> all' = all) : VG w w' x ct l t m cs rs N o k off more D all' nx 0 o.done := by
  obtain ⟨l1, l2, l3⟩ := E.Wu
  have sz := hx.size
  have fr := hx.fr h.fr
  refine ⟨rfl, rfl, fun hd => ?_, ?_, fr⟩
  · obtain ⟨y, L, h1, h2, h3, h4, _⟩ := h.whole (h.out.2.1.trans hd)
    rw [ha hd]
    exact ⟨hn hd, y, L, h1, h2, h3, h4⟩
  · obtain ⟨rs', jt, ht, hl, hf⟩ := h.tab
    refine ⟨rs', ⟨E.bw.fr fr ?_ ?_ ?_, jt, E.xt, E.xm, E.ct_, E.cm, E.lt, E.lm, fun e he z hz => ?_⟩, ht, hl, fun e he z hz => ?_⟩
    · rintro (h | ⟨y, hy, hz⟩)
      · exact E.xm h
      · exact (E.ap y hy x hz).1 rfl
    · rintro (h | ⟨y, hy, hz⟩)
      · exact E.cm h
      · exact (E.ap y hy ct hz).2.1 rfl
    · rintro (h | ⟨y, hy, hz⟩)
      · exact E.lm h
      · exact (E.ap y hy l hz).2.2 rfl
    · rcases hf e he z hz with ⟨y, hy, hz⟩ | hz
      · exact E.ap y hy z hz
      · exact ⟨by omega, by omega, by omega⟩
    · rcases hf e he z hz with h | hz
      · exact .inl h
      · exact .inr (by omega)
theorem OW {w : World} {q : dZ} {t0 t1 t2 t3 p0 p1 p2 p3 p4 p5 p6 p7 p8 p9 p10 p11 p12 p13 p14 p15 p16 p17 p18 p19 p20 p21 p22 p23 p24 p25 p26 p27 p28 p29 p30 p31 : Int} {s : ah} (h : vF w q t0 t1 t2 t3 [p0, p1, p2, p3, p4, p5, p6, p7, p8, p9, p10, p11, p12, p13, p14, p15] [p16, p17, p18, p19, p20, p21, p22, p23, p24, p25, p26, p27, p28, p29, p30, p31] s) {off : Nat} {more : Bool} {D : List UInt8} (hq : Ws q off more D)
    {x ct l t m : Nat} {cs : List Int} {rs : List (Key × JE)} (E : ES w x ct l t m cs rs) (hsum : yY (iM rs) <= 10000) {N : Nat} (hN : N < 2 ^ 19) (hlen : ∀ e ∈ rs, e.2.1.l.length <= N)
    (he : (Fh 4 10000 (iM rs) ⟨⟨xw q⟩⟩ off more D hd4 0).e = 0) (hh : (Fh 4 10000 (iM rs) ⟨⟨xw q⟩⟩ off more D hd4 0).done = true -> (Fh 4 10000 (iM rs) ⟨⟨xw q⟩⟩ off more D hd4 0).head = hd4) :
    gu (some ⟨x, 0, none⟩) t0 t1 t2 t3 p0 p1 p2 p3 p4 p5 p6 p7 p8 p9 p10 p11 p12 p13 p14 p15 p16 p17 p18 p19 p20 p21 p22 p23 p24 p25 p26 p27 p28 p29 p30 p31 s w fun all nx why ok w' => VG w w' x ct l t m cs rs N (Fh 4 10000 (iM rs) ⟨⟨xw q⟩⟩ off more D hd4 0) ⟨⟨xw q⟩⟩ off more D all nx why ok := by
  obtain ⟨⟨rfl, rfl, rfl, rfl⟩, hsrc, hdst, hdata⟩ := id h
  have hle := hq.len
  apply uD
  refine aK fun a w1 r1 e1 z1 f1 => ?_
  simp -zeta only [sx, r1.cell]
  rw [show (q.nx != 44) = false by simpa using hq.nx, cond_false]
  refine Ih (S9 (q := q) ⟨⟨rfl, rfl, rfl, rfl⟩, hsrc, hdst, hdata.ext f1⟩ hq) ?_
  rintro i0 i1 i2 i3 r ok w2 ⟨rfl, rfl, rfl, rfl, rfl, hb, f2⟩
  refine rD rfl rfl fun b w3 r3 e3 z3 f3 => ?_
  rw [Bool.not_true, cond_false]
  have x3 := f1.trans (f2.trans (f3.trans (Ext.drew w3)))
  have ra := (r1.ext (f2.trans f3)).drew
  have rb := r3.drew
  have hb := (hb.ext f3).ext (Ext.drew w3)
  intro J
  generalize w3.drew = w3 at x3 ra rb hb ⊢
  have E3 := E.ext x3
  generalize ho : Fh 4 10000 (iM rs) ⟨⟨xw q⟩⟩ off i3 D hd4 0 = o at he hh ⊢
  have hJ : ∀ {W0 W : World} {hd : ByteArray} {all : ah} {done : Bool} {e : Int}, Ext w W0 -> TW W0 W t m 4 10000 60 rs N o ⟨⟨xw q⟩⟩ off i3 D 0 hd all done e -> J hd all done e W := by
    intro W0 W hd all done e hx hA
    obtain ⟨rfl, rfl, rfl⟩ := hA.out
    simp -zeta only [J, ho]
    intro J61
    rw [he, show ((0 : Int) != 0) = false from rfl, cond_false]
    cases hd : o.done
    · rw [Bool.not_false, cond_true]
      simp -zeta only [J61]
      rw [cond_true, he]
      refine IW (NI W) ?_
      rintro r w' ⟨rfl, hw⟩
      subst hw
      have := VG.of E hx hA (nx := 0) (by rw [hd]; intro h; cases h) (all' := ⟨none, 0, 0⟩) (by rw [hd]; intro h; cases h)
      rw [hd] at this
      exact this
    · rw [Bool.not_true, cond_false]
      have e1 := hh hd
      have es : ((o.head.size : Int) == 0) = false := by rw [e1]; rfl
      rw [es]
      simp -zeta only [J61]
      rw [cond_false]
      refine ⟨4, by decide, by rw [e1]; rfl, ?_⟩
      show VG w W.drew x ct l t m cs rs N o ⟨⟨xw q⟩⟩ off i3 D all (IntKind.i64.wrap ((4 : UInt8).toNat : Int)) 0 true
      rw [show IntKind.i64.wrap ((4 : UInt8).toNat : Int) = 4 from rfl]
      have hA' : TW W0 W.drew t m 4 10000 60 rs N o ⟨⟨xw q⟩⟩ off i3 D 0 o.head all o.done o.e := by
        obtain ⟨⟨rs', j1, j2, j3, j4⟩, h2, h3, h4, h5⟩ := hA
        exact ⟨⟨rs', j1.ext (Ext.drew W), j2, j3, j4⟩, h2, fun hq => by
          obtain ⟨y, L, k1, k2, k3, k4, k5⟩ := h3 hq
          exact ⟨y, L, k1, k2, k3, k4.ext (Ext.drew W), k5⟩, h4, h5.ext (Ext.drew W)⟩
      have := VG.of E hx hA' (nx := 4) (fun _ => rfl) (all' := all) (fun _ => rfl)
      rw [hd] at this
      exact this
  clear_value J
  have hk : ∀ {W : World} {K : ByteArray -> World -> Prop}, Ext w3 W -> (∀ w', Ext W w' -> K ⟨⟨xw q⟩⟩ w') -> nK q.tr q.fl q.nx q.hp p0 p1 p2 p3 p4 p5 p6 p7 p8 p9 p10 p11 p12 p13 p14 p15 p16 p17 p18 p19 p20 p21 p22 p23 p24 p25 p26 p27 p28 p29 p30 p31 s 77 W K := by
    intro W K hx hK
    refine Qp (key_ok (q := q) ⟨⟨rfl, rfl, rfl, rfl⟩, hsrc, hdst, hdata.ext (x3.trans hx)⟩) ?_
    rintro b w' ⟨rfl, f⟩
    exact hK w' f
  have hadd : ∀ {W : World}, Ext w3 W -> dB (some ⟨t, 0, none⟩) ⟨⟨xw q⟩⟩ (off : Int) i3 r hd4 0 W fun hd all done e w' => J hd all done e w' := by
    intro W hx
    refine yw (TQ (E3.ext hx).jt (by omega) (by omega) hsum hN hlen (hb.ext hx) (by omega) _ _ _ _ _) ?_
    intro hd all done e w' hA
    rw [ho] at hA
    exact hJ (x3.trans hx) hA
  have hstr : ∀ {W : World} {c : Nat} {K : ByteArray -> Prop}, Row W c [.int .u8 (IntKind.u8.wrap 4)] -> K hd4 -> fM W ⟨some ⟨c, 0, none⟩, 1, 1⟩ K := by
    intro W c K hr hK
    exact iD (aS.aV (aS.row (l := [4]) hr)) hK
  simp -zeta only [sx, ra.cell, rb.cell, E3.bw.hd.cell]
  refine ⟨?_, ?_⟩
  · refine hk (Ext.refl _) fun w4 f4 => ?_
    try simp -zeta only [sx, (ra.ext f4).cell, (rb.ext f4).cell, (E3.ext f4).bw.hd.cell, true_and]
    refine aK fun c w5 r5 e5 z5 f5 => ?_
    have x5 := f4.trans f5
    try simp -zeta only [sx, (ra.ext x5).cell, (rb.ext x5).cell, (E3.ext x5).bw.hd.cell, true_and]
    refine hstr r5 ?_
    try simp -zeta only [sx, (ra.ext x5).cell, (rb.ext x5).cell, (E3.ext x5).bw.hd.cell, true_and]
    exact hadd x5
  · refine aK fun c w4 r4 e4 z4 f4 => ?_
    try simp -zeta only [sx, (ra.ext f4).cell, (rb.ext f4).cell, (E3.ext f4).bw.hd.cell, true_and]
    refine ⟨?_, ?_⟩
    · refine hk f4 fun w5 f5 => ?_
      have x5 := f4.trans f5
      try simp -zeta only [sx, (ra.ext x5).cell, (rb.ext x5).cell, (E3.ext x5).bw.hd.cell, true_and]
      refine hstr (r4.ext f5) ?_
      try simp -zeta only [sx, (ra.ext x5).cell, (rb.ext x5).cell, (E3.ext x5).bw.hd.cell, true_and]
      exact hadd x5
    · refine hstr r4 ?_
      try simp -zeta only [sx, (ra.ext f4).cell, (rb.ext f4).cell, (E3.ext f4).bw.hd.cell, true_and]
      refine hk f4 fun w5 f5 => ?_
      have x5 := f4.trans f5
      try simp -zeta only [sx, (ra.ext x5).cell, (rb.ext x5).cell, (E3.ext x5).bw.hd.cell, true_and]
      exact hadd x5
end Go.Proofs
end
section
namespace Go.Proofs
open Gp Gp.V4 Gp.Hol Gp.Jn
set_option maxRecDepth 100000
set_option maxHeartbeats 1000000
theorem Qb {w : World} {q : dZ} {t0 t1 t2 t3 p0 p1 p2 p3 p4 p5 p6 p7 p8 p9 p10 p11 p12 p13 p14 p15 p16 p17 p18 p19 p20 p21 p22 p23 p24 p25 p26 p27 p28 p29 p30 p31 : Int} {s : ah} (h : vF w q t0 t1 t2 t3 [p0, p1, p2, p3, p4, p5, p6, p7, p8, p9, p10, p11, p12, p13, p14, p15] [p16, p17, p18, p19, p20, p21, p22, p23, p24, p25, p26, p27, p28, p29, p30, p31] s) (hq : q.nx ≠ 44) (p : Option Addr) :
    gu p t0 t1 t2 t3 p0 p1 p2 p3 p4 p5 p6 p7 p8 p9 p10 p11 p12 p13 p14 p15 p16 p17 p18 p19 p20 p21 p22 p23 p24 p25 p26 p27 p28 p29 p30 p31 s w fun all nx why ok w' => nx = q.nx ∧ why = 0 ∧ ok = true ∧ aS w' all q.data ∧ Ext w w' := by
  obtain ⟨⟨rfl, rfl, rfl, rfl⟩, hsrc, hdst, hdata⟩ := id h
  apply uD
  refine aK fun a w1 r1 e1 z1 f1 => ?_
  have r1d := r1.drew
  simp only [sx, r1.cell, r1d.cell]
  rw [show (q.nx != 44) = true by simpa using hq, cond_true]
  have f := f1.trans (Ext.drew w1)
  exact ⟨by trivial, by trivial, by trivial, hdata.ext f, f⟩
theorem MX {b : Bool} {A B : Prop} (h : b = false) (hB : B) : cond b A B := by subst h; exact hB
theorem Gj {w : World} {x ct l t m : Nat} {cs : List Int} {rs : List (Key × JE)} (E : ES w x ct l t m cs rs) {c : ah} {q : dZ} (hc : aS w c q.bytes) (hq : q.check = 0) (hok : q.ok) (hs : q.src = uH) (hd : q.dst = ownB) (h58 : q.nx ≠ 58)
    {R : ah -> Int -> World -> Prop}
    (hw : ∀ (w2 : World) (t0 t1 t2 t3 p0 p1 p2 p3 p4 p5 p6 p7 p8 p9 p10 p11 p12 p13 p14 p15 p16 p17 p18 p19 p20 p21 p22 p23 p24 p25 p26 p27 p28 p29 p30 p31 : Int) (s : ah), Ext w w2 -> vF w2 q t0 t1 t2 t3 [p0, p1, p2, p3, p4, p5, p6, p7, p8, p9, p10, p11, p12, p13, p14, p15] [p16, p17, p18, p19, p20, p21, p22, p23, p24, p25, p26, p27, p28, p29, p30, p31] s -> yX w s ->
      gu (some ⟨x, 0, none⟩) t0 t1 t2 t3 p0 p1 p2 p3 p4 p5 p6 p7 p8 p9 p10 p11 p12 p13 p14 p15 p16 p17 p18 p19 p20 p21 p22 p23 p24 p25 p26 p27 p28 p29 p30 p31 s w2 fun all nx why ok w3 => why = 0 ∧ (∃ cs' rs', ES w3 x ct l t m cs' rs') ∧ (ok = false -> R ⟨none, 0, 0⟩ 0 w3) ∧
        (ok = true -> nx = 4 ∧ ∃ (p : dL) (n : Nat), Dg p n ∧ n <= 60000 ∧ aS w3 all p.bytes ∧ ∀ host w4, UY w4 host p.bytes -> Ext w3 w4 -> R host 0 w4)) :
    h_ (some ⟨x, 0, none⟩) c w fun _ host why w' => R host why w' := by
  have hbl := lI hok
  have hdl := (fZ hq).2
  apply Ba
  refine pF (Cc E.bw) ?_
  rintro r w0 ⟨rfl, hw0⟩
  subst hw0
  rw [Bool.not_true, cond_false]
  refine JD (O4 hc (by omega)) ?_
  rintro t0 t1 t2 t3 r0 r1 r2 r3 r4 r5 r6 r7 r8 r9 r10 r11 r12 r13 r14 r15 r16 r17 r18 r19 r20 r21 r22 r23 r24 r25 r26 r27 r28 r29 r30 r31 s e w1 ⟨he, hp, f1⟩
  obtain ⟨g1, g2⟩ := JU hq hok
  rw [g1] at he
  subst he
  obtain ⟨hp, hn⟩ := hp rfl
  rw [g2] at hp
  have E1 := E.ext f1
  refine rD rfl rfl fun a w2 ra ea z2 f2 => ?_
  rw [show ((0 : Int) != 0) = false from rfl, cond_false]
  have f2 := f2.trans (Ext.drew w2)
  have ra := ra.drew
  generalize w2.drew = w2 at f2 ra ⊢
  have E2 := E1.ext f2
  obtain ⟨⟨rfl, rfl, rfl, rfl⟩, hsrc, hdst, hdata⟩ := id hp
  rw [hs] at hsrc
  rw [hd] at hdst
  simp only [bi, uH, ownB, List.map_cons, List.map_nil, List.cons.injEq, and_true] at hsrc hdst
  obtain ⟨rfl, rfl, rfl, rfl, rfl, rfl, rfl, rfl, rfl, rfl, rfl, rfl, rfl, rfl, rfl, rfl⟩ := hsrc
  obtain ⟨rfl, rfl, rfl, rfl, rfl, rfl, rfl, rfl, rfl, rfl, rfl, rfl, rfl, rfl, rfl, rfl⟩ := hdst
  simp only [sx, ra.cell, E2.bw.hd.cell]
  refine MX (by decide) ?_
  refine MX (by simpa using h58) ?_
  have f2d := f2.trans (Ext.drew w2)
  have rad := ra.drew
  have E3 := E2.ext (Ext.drew w2)
  generalize w2.drew = w3 at f2d rad E3 ⊢
  simp only [sx, rad.cell, E3.bw.hd.cell]
  refine MX (by decide) ?_
  have f3 := f1.trans f2d
  refine oV (hw w3 q.tr q.fl q.nx q.hp 32 1 0 0 0 0 0 0 0 0 0 0 0 0 0 0 32 2 0 0 0 0 0 0 0 0 0 0 0 0 0 0 s f3 ⟨⟨rfl, rfl, rfl, rfl⟩, by rw [hs]; rfl, by rw [hd]; rfl, hdata.ext f2d⟩ hn) ?_
  rintro all nx why ok w4 ⟨rfl, ⟨cs', rs', E4⟩, h0, h1⟩
  cases ok
  · rw [Bool.not_false, cond_true]
    refine wz (Rq E4.bw) ?_
    rintro e w5 ⟨rfl, hw5⟩
    subst hw5
    exact h0 rfl
  rw [Bool.not_true, cond_false]
  obtain ⟨rfl, p, n, hg, hn6, hall, hR⟩ := h1 rfl
  rw [show ((4 : Int) != 4) = false from rfl, cond_false]
  have hl := hg.len
  refine tN (Dc hall (by omega)) ?_
  rintro i0 i1 i2 i3 i4 i5 i6 i7 i8 o d e w5 ⟨he, hp, f5⟩
  obtain ⟨k1, k2⟩ := Jo hg
  rw [k1] at he
  subst he
  rw [k2] at hp
  obtain ⟨rfl, rfl, rfl, rfl, rfl, rfl, rfl, rfl, rfl, ho, hda⟩ := hp
  refine rD rfl rfl fun a2 w6 rb eb z6 f6 => ?_
  rw [show ((0 : Int) != 0) = false from rfl, cond_false]
  simp only [sx, rb.cell]
  refine zX (Pj p (ho.ext f6) (hda.ext f6) (by rw [hg.opts]; simp) (by rw [hg.data]; omega) hg.check) ?_
  rintro host w7 ⟨hO, f7⟩
  exact hR host w7 hO (f5.trans (f6.trans f7))
end Go.Proofs
end
section
namespace Go.Proofs
open Gp Gp.V4 Gp.Hol Gp.Jn
set_option maxRecDepth 100000
set_option maxHeartbeats 1000000
theorem RD {α : Type} {n : Nat} {f : α -> List Value} (hn : ∀ x, (f x).length = n) {xs : List α} {i : Nat} (hi : i < xs.length) (y : α) (pad : List Value) :
    (xs.flatMap f ++ pad).take (i * n) ++ f y ++ (xs.flatMap f ++ pad).drop (i * n + n) = (xs.set i y).flatMap f ++ pad := by
  have e1 : xs = xs.take i ++ xs[i] :: xs.drop (i + 1) := by
    rw [<- List.drop_eq_getElem_cons hi, List.take_append_drop]
  have e2 : xs.set i y = xs.take i ++ y :: xs.drop (i + 1) := by rw [List.set_eq_take_append_cons_drop, if_pos hi]
  have l1 : ((xs.take i).flatMap f).length = i * n := by rw [jh f n hn, List.length_take]; congr 1; omega
  rw [e2]
  generalize hx : xs[i] = x at e1
  have l2 := hn x
  have e3 : xs.flatMap f = (xs.take i).flatMap f ++ (f x ++ (xs.drop (i + 1)).flatMap f) := by
    conv => lhs; rw [e1]
    rw [List.flatMap_append, List.flatMap_cons]
  rw [e3, List.flatMap_append, List.flatMap_cons]
  generalize (xs.take i).flatMap f = A at l1
  generalize (xs.drop (i + 1)).flatMap f = B
  have t1 : (A ++ (f x ++ B) ++ pad).take (i * n) = A := by rw [List.append_assoc, List.take_left' l1]
  have t2 : (A ++ (f x ++ B) ++ pad).drop (i * n + n) = B ++ pad := by
    rw [show A ++ (f x ++ B) ++ pad = (A ++ f x) ++ (B ++ pad) by simp, List.drop_left' (by rw [List.length_append, l1, l2])]
  rw [t1, t2]
  simp
theorem KJ {α : Type} {n : Nat} {f : α -> List Value} {w : World} {s : ah} {xs : List α} (hn : ∀ x, (f x).length = n) (h : gK n f w s xs) {i : Nat} (hi : i < xs.length) {y : α} (h1 : ∀ v ∈ f y, dD v = true) {K : World -> Prop}
    (hK : ∀ w', gK n f w' s (xs.set i y) -> bF w w' (ah.at s) -> w'.heap.size = w.heap.size -> K w') : dN s n (i : Int) fun a => gJ (f y) w a 0 K := by
  obtain ⟨hlen, hm⟩ := h
  rcases hm with ⟨_, rfl, _⟩ | ⟨b, pad, ha, hcap, hr⟩
  · simp at hi
  · refine Tf (o := 0) ha (by omega) (by omega) ?_
    rw [Int.toNat_natCast, Nat.zero_add]
    refine OJ (f y) w _ (i * n) 0 hr h1 ?_ fun w' r' f' z' => ?_
    · rw [hn, List.length_append, jh f n hn]
      have := Nat.mul_le_mul_right n (show i + 1 <= xs.length from hi)
      rw [Nat.add_mul] at this
      omega
    · rw [Nat.add_zero, hn, RD hn hi] at r'
      refine hK w' ⟨by rw [List.length_set]; exact hlen, .inr ⟨b, pad, ha, by rw [List.length_set]; exact hcap, r'⟩⟩ (f' _ ⟨0, ha⟩) z'
end Go.Proofs
end
section
namespace Go.Proofs
open Gp Gp.V4 Gp.Hol Gp.Jn Gp.Gets
set_option maxRecDepth 100000
set_option maxHeartbeats 1000000
def zJ (D : List UInt8) : dZ := ⟨0, 0, 4, 9, uH, ownB, D⟩
structure RV (x l m : Nat) (D : List UInt8) (qs : List dZ) (wl : World) (Inv : Nat -> World -> Prop) : Prop where
  z : Inv 0 wl
  ext : ∀ i W W', Inv i W -> Ext W W' -> Inv i W'
  fr : ∀ i W, Inv i W -> bF wl W (fun z => z = l ∨ z = m)
  go : ∀ i (hi : i < qs.length) W c, Inv i W -> aS W c qs[i].bytes -> h_ (some ⟨x, 0, none⟩) c W fun _ host why W' =>
    why = 0 ∧ Inv (i + 1) W' ∧ (i + 1 = qs.length -> UY W' host D) ∧ (i + 1 ≠ qs.length -> host = ⟨none, 0, 0⟩)
theorem C9 {D : List UInt8} (h : D.length <= 65535) : (zJ D).check = 0 := by
  unfold dZ.check
  rw [if_pos (show (zJ D).fine from show (aU 0 1 ∧ aU 4 1 ∧ aU 9 1) ∧ (0 : Int) <= 0 ∧ (0 : Int) < 1048576 by decide)]
  exact if_pos h
theorem JY {D : List UInt8} (y : Nat × Bool × List UInt8) (h : 8 + y.2.2.length <= 65535) : (jl (zJ D) 77 y).check = 0 := by
  have e : (jl (zJ D) 77 y).data.length = 8 + y.2.2.length := by
    show (lC _ _ _ _ ++ y.2.2).length = _
    rw [List.length_append, lG]
  unfold dZ.check
  rw [if_pos (show (jl (zJ D) 77 y).fine from show (aU 0 1 ∧ aU 44 1 ∧ aU 9 1) ∧ (0 : Int) <= 0 ∧ (0 : Int) < 1048576 by decide)]
  exact if_pos (by omega)
section
variable {wl : World} {x ct l t m : Nat} {p : dL} {n : Nat} (hg : Dg p n) (hn : n <= 3000)
 include hg hn
theorem Ll {cs : List Int} (E : ES wl x ct l t m cs []) : ∃ Inv, RV x l m p.bytes [zJ p.bytes] wl Inv := by
  have hl := hg.len
  refine ⟨fun _ W => (∃ cs, ES W x ct l t m cs []) ∧ bF wl W (fun z => z = l ∨ z = m), ⟨⟨cs, E⟩, bF.refl _ _⟩, ?_, fun i W h => h.2, ?_⟩
  · rintro i W W' ⟨⟨cs, E⟩, f⟩ hx
    exact ⟨⟨cs, E.ext hx⟩, f.ext hx⟩
  · rintro i hi W c ⟨⟨cs, E⟩, f⟩ hc
    simp only [List.length_singleton, Nat.lt_one_iff] at hi
    subst hi
    have hc : aS W c (zJ p.bytes).bytes := hc
    refine Gj E hc (C9 (by omega)) ⟨rfl, rfl⟩ rfl rfl (show (4 : Int) ≠ 58 by decide) ?_
    intro w2 t0 t1 t2 t3 p0 p1 p2 p3 p4 p5 p6 p7 p8 p9 p10 p11 p12 p13 p14 p15 p16 p17 p18 p19 p20 p21 p22 p23 p24 p25 p26 p27 p28 p29 p30 p31 s hx hp hns
    refine oV (Qb hp (show (4 : Int) ≠ 44 by decide) _) ?_
    rintro all nx why ok w3 ⟨rfl, rfl, rfl, hs, f3⟩
    have E3 := (E.ext hx).ext f3
    refine ⟨rfl, ⟨cs, [], E3⟩, fun h => (by cases h), fun _ => ⟨rfl, p, n, hg, by omega, hs, fun host w4 hO f4 => ?_⟩⟩
    exact ⟨rfl, ⟨⟨cs, E3.ext f4⟩, f.ext (hx.trans (f3.trans f4))⟩, fun _ => hO, fun h => absurd rfl h⟩
theorem Pv {cs : List Int} (E : ES wl x ct l t m cs []) {C C' : List (Nat × Bool × List UInt8)} (hC : C = dX 1232 1232 p.bytes (p.bytes.length + 1) 0) (hp : C'.Perm C) :
    ∃ Inv, RV x l m p.bytes (C'.map (jl (zJ p.bytes) 77)) wl Inv := by
  have hl := hg.len
  have B : TI p.bytes (qI C) 0 := by rw [hC]; exact QF (by omega) _ 0 (by omega) (by omega)
  have hP : (qI C).Perm (qI C') := (hp.map _).symm
  have hck : ∀ y ∈ C', Jf 1232 p.bytes y := fun y hy => chunk_ok (Nat.le_refl _) (by decide) (Nat.zero_le _) rfl y (by rw [<- hC]; exact hp.mem_iff.1 hy)
  have hlen : (qI C').length = C'.length := List.length_map _
  have hget : ∀ i (hi : i < C'.length), (qI C')[i]'(by omega) = ((C'[i].1 : Int), C'[i].2.1, C'[i].2.2) := fun i hi => by unfold qI; rw [List.getElem_map]
  let k : Key := ⟨⟨xw (zJ p.bytes)⟩⟩
  refine ⟨fun i W => (∃ cs rs, ES W x ct l t m cs rs ∧ (i < C'.length -> iM rs = kC k ((qI C').take i)) ∧ (∀ e ∈ rs, e.2.1.l.length <= i) ∧ ∀ e ∈ rs, ∀ z, xE e.2.1 z -> wl.heap.size <= z) ∧ bF wl W (fun z => z = l ∨ z = m),
    ⟨⟨cs, [], E, fun _ => rfl, by simp, by simp⟩, bF.refl _ _⟩, ?_, fun i W h => h.2, ?_⟩
  · rintro i W W' ⟨⟨cs, rs, E, h1, h2, h3⟩, f⟩ hx
    exact ⟨⟨cs, rs, E.ext hx, h1, h2, h3⟩, f.ext hx⟩
  · rintro i hi W c ⟨⟨cs, rs, E, h1, h2, h3⟩, f⟩ hc
    rw [List.length_map] at hi ⊢
    rw [List.getElem_map] at hc
    have hm := hck _ (List.getElem_mem hi)
    have hgi := hget i hi
    generalize C'[i] = y at hc hm hgi
    have ht := h1 hi
    have hlt := hm.lt
    have hF : Ws (jl (zJ p.bytes) 77 y) y.1 y.2.1 y.2.2 := ⟨rfl, rfl, hm.unit, by omega, by omega⟩
    have hcut : (jl (zJ p.bytes) 77 y).check = 0 := JY y (by omega)
    have hj := Pm B (by omega) hP k (i := i) (by omega)
    rw [hgi] at hj
    simp only at hj
    rw [<- ht] at hj
    have hsum : yY (iM rs) <= 10000 := by
      rw [ht, OB]
      have := JC B hP i
      omega
    refine Gj E hc hcut ⟨rfl, rfl⟩ rfl rfl (show (44 : Int) ≠ 58 by decide) ?_
    intro w2 t0 t1 t2 t3 p0 p1 p2 p3 p4 p5 p6 p7 p8 p9 p10 p11 p12 p13 p14 p15 p16 p17 p18 p19 p20 p21 p22 p23 p24 p25 p26 p27 p28 p29 p30 p31 s hx hp2 hns
    have he : (Fh 4 10000 (iM rs) ⟨⟨xw (jl (zJ p.bytes) 77 y)⟩⟩ y.1 y.2.1 y.2.2 hd4 0) = if i + 1 = (qI C').length then ⟨⟨#[4]⟩, true, 0, []⟩ else ⟨⟨#[]⟩, false, 0, kC k ((qI C').take (i + 1))⟩ := hj
    rw [hlen] at he
    refine oV (OW hp2 hF (E.ext hx) hsum (N := i) (by have := vk (most := 1232) (size := 1232) (D := p.bytes) (k := p.bytes.length + 1) (at_ := 0); rw [<- hC, <- hp.length_eq] at this; omega) h2 (by rw [he]; split <;> rfl) (by rw [he]; split <;> intro h <;> first | rfl | cases h)) ?_
    intro all nx why ok w3 hW
    rw [he] at hW
    obtain ⟨rs', E3, j3, l3, f3⟩ := hW.tab
    have hfr : bF wl w3 (fun z => z = l ∨ z = m) := by
      refine (f.ext hx).trans hW.fr fun b hb hS => ?_
      rcases hS with h | ⟨e, he, hz⟩
      · exact .inr h
      · have := h3 e he b hz; omega
    have hnew : ∀ e ∈ rs', ∀ z, xE e.2.1 z -> wl.heap.size <= z := fun e he z hz => by
      rcases f3 e he z hz with ⟨e', he', hz'⟩ | hz'
      · exact h3 e' he' z hz'
      · have := f.size; have := hx.size; omega
    have hw0 := hW.why
    have hok := hW.ok
    by_cases hlast : i + 1 = C'.length
    · rw [if_pos hlast] at hok j3
      subst hw0
      subst hok
      refine ⟨rfl, ⟨cs, rs', E3⟩, fun h => (by cases h), fun _ => ?_⟩
      obtain ⟨rfl, yy, L, q1, q2, q3, q4⟩ := hW.all (by rw [if_pos hlast])
      rw [ht] at q1
      have e1 : yy = vS ((qI C').take i) := by
        have := Fv k ((qI C').take i)
        have q1 : qM 4 (kC k ((qI C').take i)) k 0 = some yy := q1
        rw [this] at q1
        exact (Option.some.inj q1).symm
      have q2' : L.Perm (Hol.add ((qI C').take i) ((qI C')[i]'(by omega))).2 := by
        rw [hgi]
        rw [e1] at q2
        exact q2
      rw [Jy B hP (by omega), List.take_of_length_le (by omega)] at q2'
      rw [UO B hP q2' q3] at q4
      refine ⟨rfl, p, n, hg, by omega, q4, fun host w4 hO f4 => ?_⟩
      exact ⟨rfl, ⟨⟨cs, rs', E3.ext f4, fun h => by omega, l3, hnew⟩, hfr.ext f4⟩, fun _ => hO, fun h => absurd hlast h⟩
    · rw [if_neg hlast] at hok j3
      subst hw0
      subst hok
      refine ⟨rfl, ⟨cs, rs', E3⟩, fun _ => ?_, fun h => by cases h⟩
      exact ⟨rfl, ⟨⟨cs, rs', E3, fun _ => j3, l3, hnew⟩, hfr⟩, fun h => absurd h hlast, fun _ => rfl⟩
end
end Go.Proofs
end
section
namespace Go.Proofs
open Gp Gp.V4 Gp.Hol Gp.Jn Gp.Gets
set_option maxRecDepth 100000
set_option maxHeartbeats 2000000
structure Zs {β : Type} (g : β -> dZ) (W : World) (r : ah) (zs : List (FC × β)) : Prop where
  bf : gK 37 eV W r (zs.map Prod.fst)
  in_ : ∀ z ∈ zs, DN W z.1 (g z.2)
  ap : ∀ z ∈ zs, ∀ p, z.1.s.a = some p -> ¬ ah.at r p.block
section
variable {β : Type} {g : β -> dZ} {W : World} {r : ah} {zs : List (FC × β)}
theorem Zs.fr {W' : World} {S : Nat -> Prop} (h : Zs g W r zs) (f : bF W W' S) (h1 : ∀ b, ah.at r b -> ¬ S b) (h2 : ∀ z ∈ zs, ∀ p, z.1.s.a = some p -> ¬ S p.block) : Zs g W' r zs :=
  ⟨h.bf.fr f h1, fun z hz => (h.in_ z hz).fr f (h2 z hz), h.ap⟩
theorem Zs.ext {W' : World} (h : Zs g W r zs) (f : Ext W W') : Zs g W' r zs := h.fr (f fun _ => False) (by simp) (by simp)
theorem Zs.len (h : Zs g W r zs) : r.len = zs.length := by rw [h.bf.len, List.length_map]
theorem Zs.get (h : Zs g W r zs) (hok : ∀ z ∈ zs, (g z.2).ok) {i : Nat} (hi : i < zs.length) {w : World} (hw : Ext W w) :
    ∃ p0 p1 p2 p3 p4 p5 p6 p7 p8 p9 p10 p11 p12 p13 p14 p15 p16 p17 p18 p19 p20 p21 p22 p23 p24 p25 p26 p27 p28 p29 p30 p31 : Int, ∃ s : ah, zs[i].1 = ⟨(g zs[i].2).tr, (g zs[i].2).fl, (g zs[i].2).nx, (g zs[i].2).hp, [p0, p1, p2, p3, p4, p5, p6, p7, p8, p9, p10, p11, p12, p13, p14, p15, p16, p17, p18, p19, p20, p21, p22, p23, p24, p25, p26, p27, p28, p29, p30, p31], s⟩ ∧
      [p0, p1, p2, p3, p4, p5, p6, p7, p8, p9, p10, p11, p12, p13, p14, p15] = bi (g zs[i].2).src ∧ [p16, p17, p18, p19, p20, p21, p22, p23, p24, p25, p26, p27, p28, p29, p30, p31] = bi (g zs[i].2).dst ∧ aS w s (g zs[i].2).data ∧
      ∀ K : Int -> Int -> Int -> Int -> Int -> Int -> Int -> Int -> Int -> Int -> Int -> Int -> Int -> Int -> Int -> Int -> Int -> Int -> Int -> Int -> Int -> Int -> Int -> Int -> Int -> Int -> Int -> Int -> Int -> Int -> Int -> Int -> Int -> Int -> Int -> Int ->  ah -> Prop, K (g zs[i].2).tr (g zs[i].2).fl (g zs[i].2).nx (g zs[i].2).hp p0 p1 p2 p3 p4 p5 p6 p7 p8 p9 p10 p11 p12 p13 p14 p15 p16 p17 p18 p19 p20 p21 p22 p23 p24 p25 p26 p27 p28 p29 p30 p31 s -> dN r 37 (i : Int) fun a => dY w a K := by
  have hz := List.getElem_mem hi
  have hin := h.in_ _ hz
  have hy : (zs.map Prod.fst)[i]? = some zs[i].1 := by rw [List.getElem?_map, List.getElem?_eq_getElem hi]; rfl
  obtain ⟨p0, p1, p2, p3, p4, p5, p6, p7, p8, p9, p10, p11, p12, p13, p14, p15, p16, p17, p18, p19, p20, p21, p22, p23, p24, p25, p26, p27, p28, p29, p30, p31, ey, hsr, hds⟩ := Js hin (hok _ hz)
  refine ⟨p0, p1, p2, p3, p4, p5, p6, p7, p8, p9, p10, p11, p12, p13, p14, p15, p16, p17, p18, p19, p20, p21, p22, p23, p24, p25, p26, p27, p28, p29, p30, p31, zs[i].1.s, ey, hsr, hds, hin.s.ext hw, fun K hK => ?_⟩
  generalize zs[i].1.s = s at ey hK
  rw [ey] at hy
  refine QD rJ (by omega) ((h.bf.ext hw).sl rJ (by omega)) hy fun a hc => ?_
  rw [FH] at hc
  have k0 := hc 0 _ rfl; have k1 := hc 1 _ rfl; have k2 := hc 2 _ rfl; have k3 := hc 3 _ rfl; have k4 := hc 4 _ rfl; have k5 := hc 5 _ rfl; have k6 := hc 6 _ rfl; have k7 := hc 7 _ rfl; have k8 := hc 8 _ rfl; have k9 := hc 9 _ rfl; have k10 := hc 10 _ rfl; have k11 := hc 11 _ rfl; have k12 := hc 12 _ rfl; have k13 := hc 13 _ rfl; have k14 := hc 14 _ rfl; have k15 := hc 15 _ rfl; have k16 := hc 16 _ rfl; have k17 := hc 17 _ rfl; have k18 := hc 18 _ rfl; have k19 := hc 19 _ rfl; have k20 := hc 20 _ rfl; have k21 := hc 21 _ rfl; have k22 := hc 22 _ rfl; have k23 := hc 23 _ rfl; have k24 := hc 24 _ rfl; have k25 := hc 25 _ rfl; have k26 := hc 26 _ rfl; have k27 := hc 27 _ rfl; have k28 := hc 28 _ rfl; have k29 := hc 29 _ rfl; have k30 := hc 30 _ rfl; have k31 := hc 31 _ rfl; have k32 := hc 32 _ rfl; have k33 := hc 33 _ rfl; have k34 := hc 34 _ rfl; have k35 := hc 35 _ rfl; have k36 := hc 36 _ rfl
  simp only [sx, k0, k1, k2, k3, k4, k5, k6, k7, k8, k9, k10, k11, k12, k13, k14, k15, k16, k17, k18, k19, k20, k21, k22, k23, k24, k25, k26, k27, k28, k29, k30, k31, k32, k33, k34, k35, k36]
  exact hK
theorem Us (h : Zs g W r zs) (hok : ∀ z ∈ zs, (g z.2).ok) {i k : Nat} (hi : i < zs.length) (hk : k < zs.length) {K : World -> Prop}
    (hK : ∀ W', Zs g W' r ((zs.set i zs[k]).set k zs[i]) -> bF W W' (ah.at r) -> K W') :
    dN r 37 (k : Int) fun a136 => dY W a136 fun x137 x138 x139 x140 x141 x142 x143 x144 x145 x146 x147 x148 x149 x150 x151 x152 x153 x154 x155 x156 x157 x158 x159 x160 x161 x162 x163 x164 x165 x166 x167 x168 x169 x170 x171 x172 x173 => dN r 37 (i : Int) fun a174 => dY W a174 fun x175 x176 x177 x178 x179 x180 x181 x182 x183 x184 x185 x186 x187 x188 x189 x190 x191 x192 x193 x194 x195 x196 x197 x198 x199 x200 x201 x202 x203 x204 x205 x206 x207 x208 x209 x210 x211 => dN r 37 (i : Int) fun a212 => gJ (bG x137 x138 x139 x140 x141 x142 x143 x144 x145 x146 x147 x148 x149 x150 x151 x152 x153 x154 x155 x156 x157 x158 x159 x160 x161 x162 x163 x164 x165 x166 x167 x168 x169 x170 x171 x172 x173) W a212 0 fun w213 => dN r 37 (k : Int) fun a214 => gJ (bG x175 x176 x177 x178 x179 x180 x181 x182 x183 x184 x185 x186 x187 x188 x189 x190 x191 x192 x193 x194 x195 x196 x197 x198 x199 x200 x201 x202 x203 x204 x205 x206 x207 x208 x209 x210 x211) w213 a214 0 K := by
  obtain ⟨p0, p1, p2, p3, p4, p5, p6, p7, p8, p9, p10, p11, p12, p13, p14, p15, p16, p17, p18, p19, p20, p21, p22, p23, p24, p25, p26, p27, p28, p29, p30, p31, s, ek, _, _, _, hk1⟩ := h.get hok hk (Ext.refl W)
  obtain ⟨q0, q1, q2, q3, q4, q5, q6, q7, q8, q9, q10, q11, q12, q13, q14, q15, q16, q17, q18, q19, q20, q21, q22, q23, q24, q25, q26, q27, q28, q29, q30, q31, u, ei, _, _, _, hi1⟩ := h.get hok hi (Ext.refl W)
  refine hk1 _ (hi1 _ ?_)
  have e1 := FH (g zs[k].2).tr (g zs[k].2).fl (g zs[k].2).nx (g zs[k].2).hp p0 p1 p2 p3 p4 p5 p6 p7 p8 p9 p10 p11 p12 p13 p14 p15 p16 p17 p18 p19 p20 p21 p22 p23 p24 p25 p26 p27 p28 p29 p30 p31 s
  rw [<- ek] at e1
  have e2 := FH (g zs[i].2).tr (g zs[i].2).fl (g zs[i].2).nx (g zs[i].2).hp q0 q1 q2 q3 q4 q5 q6 q7 q8 q9 q10 q11 q12 q13 q14 q15 q16 q17 q18 q19 q20 q21 q22 q23 q24 q25 q26 q27 q28 q29 q30 q31 u
  rw [<- ei] at e2
  rw [show (bG (g zs[k].2).tr (g zs[k].2).fl (g zs[k].2).nx (g zs[k].2).hp p0 p1 p2 p3 p4 p5 p6 p7 p8 p9 p10 p11 p12 p13 p14 p15 p16 p17 p18 p19 p20 p21 p22 p23 p24 p25 p26 p27 p28 p29 p30 p31 s) = eV zs[k].1 from e1.symm, show (bG (g zs[i].2).tr (g zs[i].2).fl (g zs[i].2).nx (g zs[i].2).hp q0 q1 q2 q3 q4 q5 q6 q7 q8 q9 q10 q11 q12 q13 q14 q15 q16 q17 q18 q19 q20 q21 q22 q23 q24 q25 q26 q27 q28 q29 q30 q31 u) = eV zs[i].1 from e2.symm]
  refine KJ rJ h.bf (by rw [List.length_map]; exact hi) (L6 _) fun W1 b1 f1 z1 => ?_
  refine KJ rJ b1 (by rw [List.length_set, List.length_map]; exact hk) (L6 _) fun W2 b2 f2 z2 => ?_
  have hmem : ∀ z ∈ (zs.set i zs[k]).set k zs[i], z ∈ zs := fun z hz => by
    rcases List.mem_or_eq_of_mem_set hz with hz | rfl
    · rcases List.mem_or_eq_of_mem_set hz with hz | rfl
      · exact hz
      · exact List.getElem_mem hk
    · exact List.getElem_mem hi
  have ff : bF W W2 (ah.at r) := f1.trans f2 fun _ _ e => e
  refine hK W2 ⟨?_, fun z hz => (h.in_ z (hmem z hz)).fr ff (h.ap z (hmem z hz)), fun z hz => h.ap z (hmem z hz)⟩ ff
  rw [List.map_set, List.map_set]
  exact b2
end
end Go.Proofs
end
