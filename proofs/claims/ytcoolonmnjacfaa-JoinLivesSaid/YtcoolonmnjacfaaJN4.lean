import Derived.Test.YtcoolonmnjacfaaJN3
/- A part is put into the buffer of its key: what the call gives. -/
namespace Go.Proofs
open Gp Gp.Hol Gp.Jn
set_option maxRecDepth 100000
set_option maxHeartbeats 4000000

theorem pw_ne {α : Type} {R : α → α → Prop} : ∀ {l : List α}, l.Pairwise R → ∀ {a b : α}, a ∈ l → b ∈ l → a ≠ b → R a b ∨ R b a
  | [], _, _, _, ha, _, _ => by simp at ha
  | y :: l, h, a, b, ha, hb, hne => by
    obtain ⟨h1, h2⟩ := List.pairwise_cons.1 h
    rcases List.mem_cons.1 ha with ha' | ha'
    · rcases List.mem_cons.1 hb with hb' | hb'
      · exact absurd (ha'.trans hb'.symm) hne
      · rw [ha']; exact .inl (h1 b hb')
    · rcases List.mem_cons.1 hb with hb' | hb'
      · rw [hb']; exact .inr (h1 a ha')
      · exact pw_ne h2 ha' hb' hne

/-- Bytes do not lie where a map lies. -/
theorem slb_map {α β : Type} {enc : α → Value} {ev : β → Value} {w : World} {s : SliceV} {l : List UInt8} {m : Nat} {es : List (α × β)} (h : SlB w s l) (hm : MapF enc ev w m es) {a : Addr} (ha : s.a = some a) (h0 : 0 < l.length) : a.block ≠ m := by
  intro e
  obtain ⟨es', c, g, _⟩ := hm
  obtain ⟨a', h1, h2⟩ := h.at_ (List.getElem?_eq_getElem h0)
  rw [ha] at h1; cases h1
  unfold World.cell? at h2
  rw [block_add, e, g] at h2
  cases h2

section
variable {w : World} {t m : Nat} {many bytes wait : Int} {rs : List (Key × JE)}

/-- What the table is after a call. -/
structure AddR (w w' : World) (t m : Nat) (many bytes wait : Int) (rs : List (Key × JE)) (N : Nat) (o : Out) (k : Key) (off : Int) (more : Bool) (b : List UInt8) (now : Int) (hd : ByteArray) (all : SliceV) (done : Bool) (e : Int) : Prop where
  tab : ∃ rs', JAt w' t m many bytes wait rs' ∧ jtab rs' = o.l ∧ (∀ x ∈ rs', x.2.1.l.length ≤ N + 1) ∧ ∀ x ∈ rs', ∀ z, fpR x.2.1 z → (∃ y ∈ rs, fpR y.2.1 z) ∨ w.heap.size ≤ z
  out : hd = o.head ∧ done = o.done ∧ e = o.e
  whole : done = true → ∃ x l, jopen many (jtab rs) k now = some x ∧ l.Perm (Hol.add x.L (off, more, b)).2 ∧ l.Pairwise le ∧ SlB w' all (cat l) ∧ ∀ a, all.a = some a → w.heap.size ≤ a.block
  none : done = false → all = ⟨Option.none, 0, 0⟩
  fr : Fr8 w w' fun z => z = m ∨ ∃ y ∈ rs, fpR y.2.1 z

theorem jadd_ok (h : JAt w t m many bytes wait rs) (hb0 : 0 ≤ bytes) (hb1 : bytes ≤ 2 ^ 30) (hsum : jsum (jtab rs) ≤ bytes) {N : Nat} (hN : N < 2 ^ 19) (hlen : ∀ x ∈ rs, x.2.1.l.length ≤ N) {s : SliceV} {b : List UInt8} (hs : SlB w s b) (hbl : b.length ≤ 2 ^ 30) (k : Key) (off : Int) (more : Bool) (head : ByteArray) (now : Int) :
    c_join_Table_Add (some ⟨t, 0, none⟩) k off more s head now w fun hd all done e w' => AddR w w' t m many bytes wait rs N (jadd many bytes (jtab rs) k off more b head now) k off more b now hd all done e := by
  have htl := h.row.lt
  have hml := h.map.lt
  have hs0 : 0 ≤ jsum (jtab rs) := by
    rw [jsum_tab rs fun e he => (h.bufs e he).perm]; exact sumL_nonneg rs
  apply ok_join_Table_Add
  unfold s_join_Table_Add
  refine cm_join_Table_ready (jready_ok h) ?_
  rintro r w0 ⟨rfl, hw⟩
  subst hw
  rw [Bool.not_true, cond_false]
  refine cm_join_Table_open (jopen_ok h k now) ?_
  rintro p e w1 ⟨f1, ho⟩
  have same : ∀ w', Ext w0 w' → ∃ rs', JAt w' t m many bytes wait rs' ∧ jtab rs' = jtab rs ∧ (∀ x ∈ rs', x.2.1.l.length ≤ N + 1) ∧ ∀ x ∈ rs', ∀ z, fpR x.2.1 z → (∃ y ∈ rs, fpR y.2.1 z) ∨ w0.heap.size ≤ z :=
    fun w' hx => ⟨rs, h.ext hx, rfl, fun x hx => Nat.le_trans (hlen x hx) (Nat.le_succ _), fun x hx z hz => .inl ⟨x, hx, hz⟩⟩
  unfold jadd
  cases hopen : jopen many (jtab rs) k now with
  | none =>
    rw [hopen] at ho
    obtain ⟨rfl, rfl⟩ := ho
    rw [show ((7 : Int) != 0) = true from rfl, cond_true]
    exact ⟨same w1 f1, ⟨rfl, rfl, rfl⟩, fun h => by simp at h, fun _ => rfl, f1 _⟩
  | some x =>
  rw [hopen] at ho
  obtain ⟨rfl, r, rfl, hB, hin⟩ := ho
  rw [show ((0 : Int) != 0) = false from rfl, cond_false]
  have s1 := f1.size
  have fpt : ∀ z, fpR r z → z ≠ t ∧ z ≠ m := fun z hz => by
    rcases hin with hin | ⟨_, hnew⟩
    · exact h.apart _ (lk_mem hin) z hz
    · have := hnew z hz; omega
  have fpo : ∀ y ∈ rs, y.1 ≠ k → ∀ z, fpR r z → ¬ fpR y.2.1 z := fun y hy hk z hz hz' => by
    rcases hin with hin | ⟨_, hnew⟩
    · rcases pw_ne h.dis (lk_mem hin) hy (fun e => hk (by rw [← e])) with g | g
      · exact g z hz hz'
      · exact g z hz' hz
    · have := hnew z hz; have := (h.bufs y hy).lt hz'; omega
  have hxl : r.l.length ≤ N := by
    rcases hin with hin | ⟨hnone, hnew⟩
    · exact hlen _ (lk_mem hin)
    · unfold jopen at hopen
      rw [lk_tab, hnone] at hopen
      simp only [Option.map_none] at hopen
      split at hopen
      · cases hopen
      · cases hopen
        have := hB.perm.length_eq
        simp only [fresh, List.length_nil] at this
        omega
  have hBd := hB.ext (Ext.drew w1)
  have J1 := h.ext (f1.trans (Ext.drew w1))
  have hs1 := hs.ext (f1.trans (Ext.drew w1))
  have zd : w1.drew.heap.size = w1.heap.size := rfl
  simp -zeta only [ex_some, Ld_eq, List.getElem?_cons_zero, List.getElem?_cons_succ, LdV_some, dec_int, dec_ptr, add_mk, Nat.zero_add, hBd.row.cell, J1.row.cell]
  refine cm_holes_Holes_Room (room_ok hBd.H (by show r.l.length ≤ 2 ^ 30; omega) hs1) ?_
  rintro r17 w2 ⟨rfl, f2⟩
  have J2 := J1.ext f2
  simp -zeta only [true_and, List.getElem?_cons_zero, List.getElem?_cons_succ, J2.row.cell]
  refine cm_join_Table_sum (jsum_ok J2 (by omega)) ?_
  rintro r19 w3 ⟨rfl, f3⟩
  have J3 := J2.ext f3
  have x03 := (f1.trans (Ext.drew w1)).trans (f2.trans f3)
  have s03 := x03.size
  have hB3 := (hBd.ext f2).ext f3
  simp -zeta only [true_and, List.getElem?_cons_zero, List.getElem?_cons_succ, J3.row.cell]
  rw [room_perm hB.perm, wrap_i64 (by omega) (by omega)]
  unfold jput
  by_cases hroom : bytes - jsum (jtab rs) < room x.L off b
  · rw [decide_eq_true (show room x.L off b > bytes - jsum (jtab rs) from hroom), cond_true, if_pos hroom]
    exact ⟨same w3 x03, ⟨rfl, rfl, rfl⟩, fun h => by simp at h, fun _ => rfl, x03 _⟩
  rw [decide_eq_false (show ¬ room x.L off b > bytes - jsum (jtab rs) from hroom), cond_false, if_neg hroom]
  simp -zeta only [List.getElem?_cons_zero, LdV_some, dec_ptr, hB3.row.cell]
  refine cm_holes_Holes_Add (add_ok hB3.H hB3.G hB3.srt (by show r.l.length ≤ 2 ^ 20; omega) (hs.ext x03) (by omega)) ?_
  rintro r23 w4 ⟨hr23, s', xs', l', H', hp', hs', hf4, hn4, hx4⟩
  have s4 := hf4.size
  obtain ⟨ap1, ap2⟩ := add_perm hB3.G hB3.perm (off, more, b)
  rw [ap1] at hr23
  have hp'' : l'.Perm (Hol.add x.L (off, more, b)).2 := hp'.trans ap2
  have hll := add_len r.l (off, more, b)
  have hl'len : l'.length ≤ N + 1 := by rw [hp'.length_eq]; exact Nat.le_trans hll (Nat.succ_le_succ hxl)
  have G' : Gp.Hol.Good l' := (Good.add' hB3.G (off, more, b)).perm hp'.symm
  have fsub : ∀ z, (z = r.h ∨ SliceV.at r.s z) → fpR r z := fun z hz => by
    rcases hz with hz | hz
    · exact .inr (.inl hz)
    · exact .inr (.inr (.inl hz))
  have fp' : ∀ z, fpR ⟨r.b, r.h, s', xs', l'⟩ z → fpR r z ∨ w0.heap.size ≤ z := fun z hz => by
    rcases hz with hz | hz | hz | ⟨y, hy, a, ha, h0, hz⟩
    · exact .inl (.inl hz)
    · exact .inl (.inr (.inl hz))
    · rcases hn4 z hz with g | g
      · exact .inl (.inr (.inr (.inl g)))
      · exact .inr (by omega)
    · rcases hx4 y hy with g | g
      · exact .inl (.inr (.inr (.inr ⟨y, g, a, ha, h0, hz⟩)))
      · exact .inr (by have := g a ha; omega)
  have hne' : r.b ≠ r.h ∧ (¬ SliceV.at s' r.b) ∧ FreeP xs' (· = r.b) := by
    refine ⟨hB3.ne.1, fun hz => ?_, fun y hy a ha h0 e => ?_⟩
    · rcases hn4 _ hz with g | g
      · exact hB3.ne.2.1 g
      · have := hB3.row.lt; simp only at this; omega
    · rcases hx4 y hy with g | g
      · exact hB3.ne.2.2 y g a ha h0 e
      · have := g a ha; have := hB3.row.lt; simp only at this; omega
  have ho4 : ∀ y ∈ rs, y.1 ≠ k → BAt w4 y.2 := fun y hy hk => (J3.bufs y hy).fr hf4 fun z hz e => fpo y hy hk z (fsub z e) hz
  have rt4 := J3.row.fr hf4 fun e => (fpt t (fsub t e)).1 rfl
  have hm4 := J3.map.fr hf4 fun e => (fpt m (fsub m e)).2 rfl
  have rb4 : Row w4 r.b [.pointer (some ⟨r.h, 0, none⟩), .int .i64 x.since, .string x.head, .bool x.begun] := hB3.row.fr hf4 fun e => by
    rcases e with e | e
    · exact hB3.ne.1 e
    · exact hB3.ne.2.1 e
  have F4 : Fr8 w0 w4 fun z => z = m ∨ ∃ y ∈ rs, fpR y.2.1 z := (x03 _).trans hf4 fun y hy e => by
    rcases hin with hin | ⟨_, hnew⟩
    · exact .inr ⟨_, lk_mem hin, fsub y e⟩
    · have := hnew y (fsub y e); omega
  by_cases he : (Hol.add x.L (off, more, b)).1 ≠ 0
  · rw [hr23, show ((Hol.add x.L (off, more, b)).1 != 0) = true by simpa using he, cond_true, if_pos he]
    simp -zeta only [List.getElem?_cons_zero, LdV_some, dec_map, rt4.cell]
    refine MapDel_F hm4 eqS k (keyS k) fun w5 hm5 f5 z5 => ?_
    have ho5 : ∀ y ∈ rs, y.1 ≠ k → BAt w5 y.2 := fun y hy hk => (ho4 y hy hk).fr f5 fun z hz e => (h.apart y hy z hz).2 e
    refine ⟨⟨delF rs k, h.del (rt4.fr f5 h.tm) hm5 ho5, jtab_del, fun y hy => Nat.le_trans (hlen y (mem_del h.nodup hy).1) (Nat.le_succ _), fun y hy z hz => .inl ⟨y, (mem_del h.nodup hy).1, hz⟩⟩, ⟨rfl, rfl, rfl⟩, fun h => by simp at h, fun _ => rfl, F4.trans f5 fun y hy e => .inl e⟩
  have he : (Hol.add x.L (off, more, b)).1 = 0 := Classical.byContradiction he
  rw [hr23, he, show ((0 : Int) != 0) = false from rfl, cond_false, if_neg (by simp)]
  have hw : wholeB (Hol.add x.L (off, more, b)).2 = decide (0 ≤ lastE l' ∧ gaps 0 l' (lastE l') = []) := by
    unfold wholeB
    rw [← lastE_perm G'.one hp'', ← sum_perm hp'']
    by_cases h0 : 0 ≤ lastE l'
    · have := done_iff G' hs' h0
      by_cases hg : gaps 0 l' (lastE l') = []
      · rw [decide_eq_true ⟨h0, this.1 hg⟩, decide_eq_true ⟨h0, hg⟩]
      · rw [decide_eq_false (fun h => hg (this.2 h.2)), decide_eq_false (fun h => hg h.2)]
    · rw [decide_eq_false (fun h => h0 h.1), decide_eq_false (fun h => h0 h.1)]
  intro J28
  have hJ28 : ∀ W, Fr8 w4 W (· = r.b) → Row W r.b [.pointer (some ⟨r.h, 0, none⟩), .int .i64 x.since, .string (begin_ { x with L := (Hol.add x.L (off, more, b)).2 } off head).head, .bool (begin_ { x with L := (Hol.add x.L (off, more, b)).2 } off head).begun] → J28 W := by
    intro W fW rW
    simp -zeta only [J28]
    have sW := fW.size
    have hrb : fpR r r.b := .inl rfl
    have rtW := rt4.fr fW fun e => (fpt _ hrb).1 e.symm
    have hmW := hm4.fr fW fun e => (fpt _ hrb).2 e.symm
    have HW : HAt W r.h s' xs' l' (lastE l') := H'.fr fW (fun e => hB3.ne.1 e.symm) (fun z hz e => hne'.2.1 (e ▸ hz)) (fun y hy a ha h0 e => hne'.2.2 y hy a ha h0 e)
    have hoW : ∀ y ∈ rs, y.1 ≠ k → BAt W y.2 := fun y hy hk => (ho4 y hy hk).fr fW fun z hz e => fpo y hy hk z (by rw [e]; exact hrb) hz
    have FW : Fr8 w0 W fun z => z = m ∨ ∃ y ∈ rs, fpR y.2.1 z := F4.trans fW fun y hy e => by
      rcases hin with hin | ⟨_, hnew⟩
      · exact .inr ⟨_, lk_mem hin, by rw [e]; exact hrb⟩
      · have := hnew _ hrb; omega
    generalize hx1 : begin_ { x with L := (Hol.add x.L (off, more, b)).2 } off head = x1 at rW ⊢
    have hx1L : x1.L = (Hol.add x.L (off, more, b)).2 := by rw [← hx1, begin_L]
    have hx1s : x1.since = x.since := by rw [← hx1, begin_since]
    simp -zeta only [List.getElem?_cons_zero, LdV_some, dec_ptr, rW.cell]
    refine cm_holes_Holes_Done (done_ok HW G' (by omega)) ?_
    rintro all ok w5 ⟨hdone, f5⟩
    have s5 := f5.size
    have rt5 := rtW.ext f5
    have hm5 := hmW.ext f5
    rcases hdone with ⟨rfl, d1, d2, d3, d4⟩ | ⟨rfl, d1, _⟩
    · rw [if_pos (by rw [hw, decide_eq_true ⟨d1, d2⟩])]
      rw [Bool.not_true, cond_false]
      simp -zeta only [List.getElem?_cons_zero, LdV_some, dec_map, rt5.cell]
      refine MapDel_F hm5 eqS k (keyS k) fun w6 hm6 f6 z6 => ?_
      have hmr : r.b ≠ m := (fpt _ hrb).2
      have rb6 := (rW.ext f5).fr f6 hmr
      simp -zeta only [List.getElem?_cons_zero, List.getElem?_cons_succ, LdV_some, dec_str, rb6.cell]
      have ho6 : ∀ y ∈ rs, y.1 ≠ k → BAt w6 y.2 := fun y hy hk => ((hoW y hy hk).ext f5).fr f6 fun z hz e => (h.apart y hy z hz).2 e
      refine ⟨⟨delF rs k, h.del (rt5.fr f6 h.tm) hm6 ho6, jtab_del, fun y hy => Nat.le_trans (hlen y (mem_del h.nodup hy).1) (Nat.le_succ _), fun y hy z hz => .inl ⟨y, (mem_del h.nodup hy).1, hz⟩⟩, ⟨rfl, rfl, rfl⟩, fun _ => ⟨x, l', hopen, hp'', hs', ?_⟩, fun h => by simp at h, (FW.ext f5).trans f6 fun y hy e => .inl e⟩
      exact ⟨d3.fr f6 fun a ha h0 e => slb_map d3 hm5 ha h0 e, fun a ha => by have := d4 a ha; have := FW.size; omega⟩
    · rw [if_neg (by rw [hw, decide_eq_false (fun h => d1.elim (fun d1 => absurd h.1 (Int.not_le.2 d1)) fun d1 => d1 h.2)]; simp)]
      rw [Bool.not_false, cond_true]
      simp -zeta only [List.getElem?_cons_zero, LdV_some, dec_map, rt5.cell]
      have hb5 : BAt w5 (⟨r.b, r.h, s', xs', l'⟩, x1) := ⟨by rw [hx1s]; exact rW.ext f5, HW.ext f5, G', hs', by rw [hx1L]; exact hp'', hne'⟩
      have fpx : ∀ z, fpR ⟨r.b, r.h, s', xs', l'⟩ z → z ≠ t ∧ z ≠ m := fun z hz => by
        rcases fp' z hz with g | g
        · exact fpt z g
        · omega
      refine MapSet_F (b := ((⟨r.b, r.h, s', xs', l'⟩, x1) : JE)) hm5 eqS k (keyS k) fun w6 hm6 f6 z6 => ?_
      have hb6 := hb5.fr f6 fun z hz e => (fpx z hz).2 e
      have ho6 : ∀ y ∈ rs, y.1 ≠ k → BAt w6 y.2 := fun y hy hk => ((hoW y hy hk).ext f5).fr f6 fun z hz e => (h.apart y hy z hz).2 e
      refine ⟨⟨upF rs k (⟨r.b, r.h, s', xs', l'⟩, x1), h.up (rt5.fr f6 h.tm) hm6 hb6 ho6 (fun y hy hk z hz hz' => ?_) fpx, jtab_up, fun y hy => ?_, fun y hy z hz => ?_⟩, ⟨rfl, rfl, rfl⟩, fun h => by simp at h, fun _ => rfl, (FW.ext f5).trans f6 fun y hy e => .inl e⟩
      · rcases fp' z hz with g | g
        · exact fpo y hy hk z g hz'
        · have := (h.bufs y hy).lt hz'; omega
      · rcases mem_up h.nodup hy with rfl | ⟨g, _⟩
        · exact hl'len
        · exact Nat.le_trans (hlen y g) (Nat.le_succ _)
      · rcases mem_up h.nodup hy with rfl | ⟨g, _⟩
        · rcases fp' z hz with g | g
          · rcases hin with hin | ⟨_, hnew⟩
            · exact .inl ⟨_, lk_mem hin, g⟩
            · exact .inr (hnew z g)
          · exact .inr g
        · exact .inl ⟨y, g, hz⟩
  clear_value J28
  intro J43
  have hJt : x.begun = false → off = 0 → J43 true := by
    intro hbg ho0
    simp -zeta only [J43, cond_true]
    refine St_row rb4 rfl (by simp) fun w5 r5 f5 z5 => ?_
    simp only [List.set_cons_zero, List.set_cons_succ] at r5
    refine St_row r5 rfl (by simp) fun w6 r6 f6 z6 => ?_
    simp only [List.set_cons_zero, List.set_cons_succ] at r6
    refine hJ28 w6 ((f5 (· = r.b) rfl).trans (f6 (· = r.b) rfl) fun _ _ e => e) ?_
    have eb : begin_ { x with L := (Hol.add x.L (off, more, b)).2 } off head = ⟨x.since, head, true, (Hol.add x.L (off, more, b)).2⟩ := by
      unfold begin_; rw [if_pos ⟨ho0, hbg⟩]
    rw [eb]
    exact r6
  have hJf : ¬ (off = 0 ∧ x.begun = false) → J43 false := by
    intro hno
    simp -zeta only [J43, cond_false]
    refine hJ28 w4 (Fr8.refl _ _) ?_
    have eb : begin_ { x with L := (Hol.add x.L (off, more, b)).2 } off head = { x with L := (Hol.add x.L (off, more, b)).2 } := by
      unfold begin_; rw [if_neg hno]
    rw [eb]
    exact rb4
  clear_value J43
  by_cases ho0 : off = 0
  · rw [show (off == 0) = true by simpa using ho0, cond_true]
    simp -zeta only [List.getElem?_cons_zero, List.getElem?_cons_succ, LdV_some, dec_bool, rb4.cell]
    cases hbg : x.begun with
    | true => exact hJf (by rw [hbg]; simp)
    | false => exact hJt hbg ho0
  · rw [show (off == 0) = false by simpa using ho0, cond_false]
    exact hJf fun h => ho0 h.1
end
end Go.Proofs
