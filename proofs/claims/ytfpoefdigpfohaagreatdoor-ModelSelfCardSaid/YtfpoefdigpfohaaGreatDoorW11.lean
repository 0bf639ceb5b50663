import Derived.Test.YtfpoefdigpfohaaGreatDoorW10
import Derived.Test.YtfpoefdigpfohaaGreatDoorW4
import Derived.Test.YtfpoefdigpfohaaGreatDoorProg
import Derived.KernelRfl
import Derived.Test.YtfpoefdigpfohaaGreatDoorW7
import Derived.Test.YtfpoefdigpfohaaGreatDoorG39
section
namespace Go.Proofs
open Gp
set_option maxRecDepth 100000
set_option maxHeartbeats 1000000
theorem BD {w : World} {s : ByteArray} (hs : s.size <= 10) {K : ah -> World -> Prop}
    (hK : ∀ (cp : Nat) w1, Ext w w1 -> (∀ j, j < s.size -> ∃ b : Int, w1.cell? ⟨w.heap.size, j, none⟩ = some (.int .u8 b)) -> K ⟨some ⟨w.heap.size, 0, none⟩, s.size, cp⟩ w1) : rX 5 s w K := by
  refine ⟨by omega, fun cp h1 h2 => hK cp _ ((Ext.drew w).trans fun S => bH.alloc _ _ S) ?_⟩
  intro j hj
  have hl : (byteCells s).length = s.size := by unfold byteCells; rw [List.length_map, Lib.size_eq]
  have := World.alloc_heap_new w.drew (.cells ⟨byteCells s ++ aB [.int .u8 0] (cp - s.size)⟩ 5 (cp, cp + 1))
  have e : w.drew.heap.size = w.heap.size := rfl
  rw [e] at this
  have hj' : j < s.data.toList.length := by rw [<- Lib.size_eq]; exact hj
  refine ⟨(s.data.toList[j]'hj').toNat, ?_⟩
  unfold World.cell?
  simp only [this]
  simp only [Option.isSome_none, Bool.false_eq_true, if_false]
  rw [<- Array.getElem?_toList]
  show (byteCells s ++ _)[j]? = _
  rw [List.getElem?_append_left (by omega)]
  unfold byteCells
  rw [List.getElem?_map, List.getElem?_eq_getElem hj']
  rfl
theorem KU {w : World} (s : ByteArray) (m : Int) : kP s m w fun _ _ w' => Ext w w' := by
  apply DC
  intro J
  have h1 : J true := Ext.refl w
  have h0 : s.size <= 10 -> J false := by
    intro hs
    show (bif false then _ else _)
    rw [cond_false]
    refine BD hs fun cp w1 f1 hc => ?_
    refine bD (fun st W => ∃ j : Nat, st.2.1 = (j : Int) ∧ j <= s.size ∧ Ext w1 W) (fun st _ => (s.size - st.2.1).toNat) ⟨0, rfl, by omega, Ext.refl _⟩ ?_
    rintro ⟨v, i, ⟨⟩⟩ W ⟨j, hi, hj, hx⟩ next hnext
    simp only at hi
    subst hi
    by_cases hlt : (j : Int) < (s.size : Int)
    · simp -zeta only [hlt, decide_true, cond_true]
      obtain ⟨b, hb⟩ := hc j (by omega)
      have hb := H9 hb hx
      refine sG (o := 0) rfl (by omega) (by simpa using hlt) ?_
      rw [Int.toNat_natCast, Nat.zero_add, Nat.mul_one]
      simp -zeta only [sx, hb]
      intro J12
      have g1 : J12 true := f1.trans hx
      have g0 : J12 false := by
        show (bif false then _ else _)
        rw [cond_false]
        refine hnext _ _ ⟨j + 1, ?_, by omega, hx⟩ ?_
        · simp only; rw [wrap_i64 (by omega) (by omega)]; simp
        · simp only; rw [wrap_i64 (by omega) (by omega)]; omega
      cases decide (b < 48)
      · simp -zeta only [cond_false]
        cases decide (b > 57)
        · exact g0
        · exact g1
      · simp -zeta only [cond_true]; exact g1
    · simp -zeta only [hlt, decide_false, cond_false]
      cases decide (v > m)
      · exact f1.trans hx
      · exact f1.trans hx
  by_cases ha : (s.size : Int) < 1
  · rw [decide_eq_true ha, cond_true]; exact h1
  rw [decide_eq_false ha, cond_false]
  by_cases hb : (s.size : Int) > 10
  · rw [decide_eq_true hb, cond_true]; exact h1
  rw [decide_eq_false hb, cond_false]
  have h0 := h0 (by omega)
  by_cases hd : (s.size : Int) > 1
  · rw [decide_eq_true hd, cond_true]
    refine ⟨s[0]'(by omega), by decide, by
      show s[(0 : Nat)]? = _
      rw [getElem?_pos s 0 (by omega)], ?_⟩
    have hq : ∀ q, J q := fun q => by cases q <;> assumption
    exact hq _
  · rw [decide_eq_false hd, cond_false]; exact h0
theorem PI {w : World} (n : Int) : nZ n w fun _ w' => w' = w := by
  apply GV
  cases (n == 1) <;> cases (n == 6) <;> cases (n == 17) <;> rfl
theorem L6 {w : World} (s : ByteArray) : mO s w fun _ _ w' => Ext w w' := by
  apply EO
  refine aU fun a w1 ra ea z1 f1 => ?_
  refine bD (fun st W => ∃ j : Nat, st.1 = (j : Int) ∧ j <= 3 ∧ W = w1) (fun st _ => (3 - st.1).toNat) ⟨0, rfl, by omega, rfl⟩ ?_
  rintro ⟨i, ⟨⟩⟩ W ⟨j, hi, hj, rfl⟩ next hnext
  simp only at hi
  subst hi
  by_cases hlt : (j : Int) < 3
  · rw [decide_eq_true hlt, cond_true]
    have hj3 : j < 3 := by omega
    have hc : ∃ x : Int, W.cell? ⟨a, j, none⟩ = some (.int .i64 x) := by
      rw [ra.cell]
      match j, hj3 with
      | 0, _ => exact ⟨_, rfl⟩
      | 1, _ => exact ⟨_, rfl⟩
      | 2, _ => exact ⟨_, rfl⟩
    obtain ⟨x, hc⟩ := hc
    refine sG (o := 0) rfl (by omega) hlt ?_
    rw [Int.toNat_natCast, Nat.zero_add, Nat.mul_one]
    simp only [sx, hc]
    refine Ij (PI x) ?_
    rintro r W2 rfl
    cases strEq r s
    · rw [cond_false, wrap_i64 (by omega) (by omega)]
      exact hnext _ _ ⟨j + 1, by simp, by omega, rfl⟩ (by simp only; omega)
    · exact f1
  · rw [decide_eq_false hlt, cond_false]; exact f1
theorem PN {w : World} (s : ByteArray) : mD s w fun _ _ w' => Ext w w' := by
  apply E_
  intro J
  have h1 : J true := Ext.refl w
  have h0 : s.size <= 10 -> J false := by
    intro hs
    show (bif false then _ else _)
    rw [cond_false]
    refine BD hs fun cp w1 f1 hc => ?_
    refine bD (fun st W => ∃ j : Nat, st.2.1 = (j : Int) ∧ j <= s.size ∧ Ext w1 W) (fun st _ => (s.size - st.2.1).toNat) ⟨0, rfl, by omega, Ext.refl _⟩ ?_
    rintro ⟨v, i, ⟨⟩⟩ W ⟨j, hi, hj, hx⟩ next hnext
    simp only at hi
    subst hi
    by_cases hlt : (j : Int) < (s.size : Int)
    · simp -zeta only [hlt, decide_true, cond_true]
      obtain ⟨b, hb⟩ := hc j (by omega)
      have hb := H9 hb hx
      refine sG (o := 0) rfl (by omega) (by simpa using hlt) ?_
      rw [Int.toNat_natCast, Nat.zero_add, Nat.mul_one]
      simp -zeta only [sx, hb]
      intro J12
      have g1 : J12 true := f1.trans hx
      have g0 : J12 false := by
        show (bif false then _ else _)
        rw [cond_false]
        refine hnext _ _ ⟨j + 1, ?_, by omega, hx⟩ ?_
        · simp only; rw [wrap_i64 (by omega) (by omega)]; simp
        · simp only; rw [wrap_i64 (by omega) (by omega)]; omega
      cases decide (b < 48)
      · rw [cond_false]
        cases decide (b > 57)
        · exact g0
        · exact g1
      · rw [cond_true]; exact g1
    · simp -zeta only [hlt, decide_false, cond_false]
      exact f1.trans hx
  by_cases ha : (s.size : Int) < 1
  · rw [decide_eq_true ha, cond_true]; exact h1
  rw [decide_eq_false ha, cond_false]
  by_cases hb : (s.size : Int) > 3
  · rw [decide_eq_true hb, cond_true]; exact h1
  rw [decide_eq_false hb, cond_false]
  have h0 := h0 (by omega)
  refine ⟨s[0]'(by omega), by decide, by
    show s[(0 : Nat)]? = _
    rw [getElem?_pos s 0 (by omega)], ?_⟩
  have hq : ∀ q, J q := fun q => by cases q <;> assumption
  have hp : ∀ p : Bool, (bif p then J (decide ((s.size : Int) > 1)) else J false) := fun p => by cases p <;> simp only [cond_true, cond_false] <;> exact hq _
  exact hp _
theorem KJ {w : World} (s : ByteArray) (hs : s.size <= 2 ^ 40) : ku s w fun _ _ w' => Ext w w' := by
  apply Dx
  refine qF (split_ok s 46 hs) ?_
  rintro r w1 ⟨⟨xs, hx, _, hle⟩, f1⟩
  cases ((r.len : Int) != 4)
  case true => rw [cond_true]; exact f1
  rw [cond_false]
  have hlen := hx.len
  refine bD (fun st W => ∃ j : Nat, st.2.1 = (j : Int) ∧ j <= xs.length ∧ Ext w1 W) (fun st _ => (r.len - st.2.1).toNat) ⟨0, rfl, by omega, Ext.refl _⟩ ?_
  rintro ⟨v, i, ⟨⟩⟩ W ⟨j, hi, hj, hf⟩ next hnext
  simp only at hi
  subst hi
  by_cases hlt : (j : Int) < (r.len : Int)
  · simp only [hlt, decide_true, cond_true]
    have hxj := List.getElem?_eq_getElem (show j < xs.length by omega)
    refine fH rH (by omega) (hx.ext hf) (by omega) (by rw [Int.toNat_natCast]; exact hxj) fun a hc => ?_
    have c0 : W.cell? (a.add 0) = some (.string xs[j]) := hc 0 _ rfl
    rw [show a.add 0 = a from rfl] at c0
    simp only [sx, c0]
    refine EL (PN _) ?_
    intro r1 r2 w2 f2
    cases r2
    · exact f1.trans (hf.trans f2)
    · rw [Bool.not_true, cond_false]
      refine ⟨by omega, ?_⟩
      rw [wrap_i64 (by omega) (by omega)]
      exact hnext _ _ ⟨j + 1, by simp, by omega, hf.trans f2⟩ (by simp only; omega)
  · simp only [hlt, decide_false, cond_false]
    exact f1.trans hf
def Rd (w : World) (a : Nat) : Prop := ∃ (s : ah) (b : Bool) (xs : List ByteArray), Row w a [.slice s.a s.len s.cap, .bool b] ∧ dQ 1 eS w s xs ∧ ∀ x ∈ xs, x.size <= 2 ^ 40
theorem Rd.ext {w w' : World} {a : Nat} (h : Rd w a) (f : Ext w w') : Rd w' a := by
  obtain ⟨s, b, xs, h1, h2, h3⟩ := h
  exact ⟨s, b, xs, h1.ext f, h2.ext f, h3⟩
theorem yG {w : World} {c : Nat} {L : List Value} (h1 : Row w c L) (hL : ∀ (i : Nat) (x : ByteArray), L[i]? ≠ some (.string x)) {s : ah} {xs : List ByteArray} (h2 : dQ 1 eS w s xs) {ad : Addr} (ha : s.a = some ad) (h0 : 0 < xs.length) : ¬ ad.block = c := by
  intro e
  obtain ⟨a', g1, g2⟩ := h2.at_ rH (by omega) (List.getElem?_eq_getElem h0)
  rw [ha] at g1; cases g1
  have g2 : w.cell? (ad.add (0 * 1 + 0)) = some (.string xs[0]) := g2 0 _ rfl
  rw [show ad.add (0 * 1 + 0) = ad from rfl] at g2
  obtain ⟨T, hr⟩ := h1
  unfold World.cell? at g2
  rw [e, hr] at g2
  simp only at g2
  split at g2
  · cases g2
  · exact hL ad.off xs[0] (by simpa using g2)
theorem Rh {v : ah} {b : Bool} (i : Nat) (x : ByteArray) : [Value.slice v.a v.len v.cap, .bool b][i]? ≠ some (.string x) := by
  rcases i with _ | _ | i <;> simp
theorem Rd.fr {w w' : World} {a c : Nat} {L : List Value} (h : Rd w a) (f : bH w w' (· = c)) (hc : a ≠ c) (hr : Row w c L) (hL : ∀ (i : Nat) (x : ByteArray), L[i]? ≠ some (.string x)) : Rd w' a := by
  obtain ⟨s, b, xs, h1, h2, h3⟩ := h
  exact ⟨s, b, xs, h1.fr f hc, h2.fr f fun ad ha h0 => yG hr hL h2 ha h0, h3⟩
theorem Rd.bad {w : World} {a : Nat} (h : Rd w a) (b : Bool) {K : World -> Prop} (hK : ∀ w', Rd w' a -> bH w w' (· = a) -> K w') : St w ⟨a, 1, none⟩ (.bool b) K := by
  obtain ⟨s, b0, xs, h1, h2, h3⟩ := h
  refine dF h1 rfl (by simp) fun w1 r1 f1 z1 => hK w1 ⟨s, b, xs, r1, h2.fr (f1 (· = a) rfl) fun ad ha h0 => yG h1 Rh h2 ha h0, h3⟩ (f1 _ rfl)
theorem F9 {w : World} {a : Nat} (h : Rd w a) : dB (some ⟨a, 0, none⟩) w fun r w' => (Rd w' a ∧ r.size <= 2 ^ 40) ∧ bH w w' (· = a) := by
  apply vk
  obtain ⟨s, b, xs, h1, h2, h3⟩ := id h
  have hlen := h2.len
  simp only [sx, h1.cell]
  by_cases h0 : (s.len : Int) = 0
  · rw [show ((s.len : Int) == 0) = true by simpa using h0, cond_true]
    exact h.bad true fun w' hr hf => ⟨⟨hr, by decide⟩, hf⟩
  · rw [show ((s.len : Int) == 0) = false by simpa using h0, cond_false]
    have hx0 := List.getElem?_eq_getElem (show 0 < xs.length by omega)
    refine fH rH (by omega) h2 (by omega) (i := 0) hx0 fun ad hc => ?_
    have c0 : w.cell? (ad.add 0) = some (.string xs[0]) := hc 0 _ rfl
    rw [show ad.add 0 = ad from rfl] at c0
    simp only [sx, c0]
    refine EW rH h2 (by omega) (by omega) (by omega) fun s' hs' => ?_
    refine dF h1 rfl (by simp) fun w1 r1 f1 z1 => ?_
    exact ⟨⟨⟨s', b, _, r1, hs'.fr (f1 (· = a) rfl) fun ad ha h0 => yG h1 Rh hs' ha h0, fun x hx => h3 x (List.mem_of_mem_take (List.mem_of_mem_drop hx))⟩, h3 _ (List.getElem_mem _)⟩, f1 _ rfl⟩
theorem Rd.flag {w : World} {a : Nat} (h : Rd w a) : ∃ b : Bool, w.cell? ⟨a, 1, none⟩ = some (.bool b) := by
  obtain ⟨s, b, xs, h1, h2, h3⟩ := h
  exact ⟨b, h1.cell 1⟩
theorem qZ {w : World} {a : Nat} (h : Rd w a) (m : Int) : bP (some ⟨a, 0, none⟩) m w fun _ w' => Rd w' a ∧ bH w w' (· = a) := by
  apply sK
  refine jO (F9 h) ?_
  rintro r w1 ⟨⟨h1, h2⟩, f1⟩
  refine DN (KU r m) ?_
  intro r1 r2 w2 f2
  have h3 := h1.ext f2
  have ff := f1.ext f2
  intro J
  obtain ⟨b, hb⟩ := h3.flag
  simp -zeta only [sx, hb]
  have hJ : ∀ w', Rd w' a -> bH w2 w' (· = a) -> J w' := fun w' hr hf => ⟨hr, ff.trans hf fun _ _ e => e⟩
  cases b
  · rw [cond_false]; exact h3.bad _ hJ
  · rw [cond_true]; exact h3.bad _ hJ
theorem Kz {w : World} {a : Nat} (h : Rd w a)  : dR (some ⟨a, 0, none⟩)  w fun _ w' => Rd w' a ∧ bH w w' (· = a) := by
  apply uI
  refine jO (F9 h) ?_
  rintro r w1 ⟨⟨h1, h2⟩, f1⟩
  refine Gf (L6 r) ?_
  intro r1 r2 w2 f2
  have h3 := h1.ext f2
  have ff := f1.ext f2
  intro J
  obtain ⟨b, hb⟩ := h3.flag
  simp -zeta only [sx, hb]
  have hJ : ∀ w', Rd w' a -> bH w2 w' (· = a) -> J w' := fun w' hr hf => ⟨hr, ff.trans hf fun _ _ e => e⟩
  cases b
  · rw [cond_false]; exact h3.bad _ hJ
  · rw [cond_true]; exact h3.bad _ hJ
theorem Hl {w : World} {a : Nat} (h : Rd w a)  : dK (some ⟨a, 0, none⟩)  w fun _ w' => Rd w' a ∧ bH w w' (· = a) := by
  apply vK
  refine jO (F9 h) ?_
  rintro r w1 ⟨⟨h1, h2⟩, f1⟩
  refine DT (KJ r h2) ?_
  intro r1 r2 w2 f2
  have h3 := h1.ext f2
  have ff := f1.ext f2
  intro J
  obtain ⟨b, hb⟩ := h3.flag
  simp -zeta only [sx, hb]
  have hJ : ∀ w', Rd w' a -> bH w2 w' (· = a) -> J w' := fun w' hr hf => ⟨hr, ff.trans hf fun _ _ e => e⟩
  cases b
  · rw [cond_false]; exact h3.bad _ hJ
  · rw [cond_true]; exact h3.bad _ hJ
theorem Eu {w : World} {a : Nat} (h : Rd w a) : dJ (some ⟨a, 0, none⟩) w fun _ _ _ _ w' => Rd w' a ∧ bH w w' (· = a) := by
  apply uo
  refine aU fun c w1 rc ec z1 f1 => ?_
  have hlt : a < w.heap.size := by
    obtain ⟨s, b, xs, h1, h2, h3⟩ := h
    exact h1.lt
  refine eF (qZ (h.ext f1) 63) ?_
  rintro r1 w2 ⟨h2, f2⟩
  refine uw (Kz h2) ?_
  rintro r2 w3 ⟨h3, f3⟩
  refine oC (Hl h3) ?_
  rintro r3 w4 ⟨h4, f4⟩
  refine eF (qZ h4 65535) ?_
  rintro r4 w5 ⟨h5, f5⟩
  have ff := (f2.trans f3 fun _ _ e => e).trans (f4.trans f5 fun _ _ e => e) fun _ _ e => e
  have rc := rc.fr ff (by omega)
  refine iP rc rfl rfl fun w6 r6 f6 z6 => ?_
  simp only [sx, r6.cell]
  have g6 := f6 (· = c) rfl
  have s1 := f1.size
  have s5 := ff.size
  exact ⟨h5.fr g6 (by omega) rc (fun i x => by rcases i with _ | _ | _ | _ | i <;> simp), ((f1 (· = a)).trans ff fun _ _ e => e).trans g6 fun x hx e => by omega⟩
abbrev i8 (x0 x1 x2 x3 x4 x5 x6 x7 : Int) : List Value := [.int .i64 x0, .int .i64 x1, .int .i64 x2, .int .i64 x3, .int .i64 x4, .int .i64 x5, .int .i64 x6, .int .i64 x7]
theorem Pm {x0 x1 x2 x3 x4 x5 x6 x7 : Int} (i : Nat) (x : ByteArray) : (i8 x0 x1 x2 x3 x4 x5 x6 x7)[i]? ≠ some (.string x) := by
  rcases i with _ | _ | _ | _ | _ | _ | _ | _ | i <;> simp
theorem PV {w : World} (n : Int) {s : ah} {xs : List ByteArray} (hs : dQ 1 eS w s xs) (hx : ∀ x ∈ xs, x.size <= 2 ^ 40) : nX n s w fun _ _ _ _ _ _ _ _ _ w' => Ext w w' := by
  apply Ii
  refine aU fun a w1 ra ea z1 f1 => aU fun b w2 rb eb z2 f2 => aU fun c w3 rc ec z3 f3 => ?_
  refine iP rc rfl rfl fun w4 rc f4 z4 => ?_
  have g4 := f4 (· = c) rfl
  have x3 := f1.trans (f2.trans f3)
  have x4 := x3.new g4 fun x hx e => by have := f1.size; have := f2.size; omega
  have ra := (ra.ext (f2.trans f3)).fr g4 (by omega)
  have hb : Rd w4 b := ⟨s, false, xs, (rb.ext f3).fr g4 (by omega), hs.ext x4, hx⟩
  clear f4 g4 rb
  have s1 := f1.size
  have s2 := f2.size
  have s3 := f3.size
  intro J
  have hJ : ∀ W x0 x1 x2 x3 x4 x5 x6 x7, Row W a (i8 0 0 0 0 0 0 0 0) -> Row W c (i8 x0 x1 x2 x3 x4 x5 x6 x7) -> Rd W b -> Ext w W -> J W := by
    intro W x0 x1 x2 x3 x4 x5 x6 x7 ra rc hb hf
    obtain ⟨q, hq⟩ := hb.flag
    have hf := hf.trans (Ext.drew W)
    have ra := ra.drew
    have rc := rc.drew
    have hq : W.drew.cell? ⟨b, 1, none⟩ = some (.bool q) := hq
    show _
    simp -zeta only [J]
    generalize W.drew = W at *
    simp -zeta only [sx, rc.cell, hq]
    refine iP ra rfl rfl fun w5 r5 f5 z5 => ?_
    have g5 := f5 (· = a) rfl
    refine ⟨Ap hq g5 (by simp only; omega), ?_⟩
    simp only [sx, r5.cell]
    exact hf.new g5 fun x hx e => by omega
  have hend : ∀ {w5 w6 : World}, bH w4 w5 (· = b) -> bH w5 w6 (· = c) -> Ext w w6 := fun f5 f6 => (x4.new f5 fun x hx e => by omega).new f6 fun x hx e => by omega
  cases (n == 1)
  case true =>
    rw [cond_true]
    refine eF (qZ hb 63) ?_
    rintro r w5 ⟨h5, f5⟩
    have rc := rc.fr f5 (by omega)
    have ra := ra.fr f5 (by omega)
    rw [bI]
    refine dF rc rfl (by simp) fun w6 r6 f6 z6 => ?_
    have g6 := f6 (· = c) rfl
    exact hJ w6 _ _ _ _ _ _ _ _ (ra.fr g6 (by omega)) r6 (h5.fr g6 (by omega) rc Pm) (hend f5 g6)
  rw [cond_false]
  have inn : ∀ {w5 : World} {x0 x1 x2 x3 : Int}, Rd w5 b -> bH w4 w5 (· = b) -> ∀ {K : World -> Prop}, (∀ w6, Row w6 a (i8 0 0 0 0 0 0 0 0) -> Row w6 c (i8 n x0 x1 x2 x3 0 0 0) -> Rd w6 b -> Ext w w6 -> K w6) ->
      mg [.int .i64 x0, .int .i64 x1, .int .i64 x2, .int .i64 x3] w5 ((⟨c, 0, none⟩ : Addr).add 1) 0 K := by
    intro w5 x0 x1 x2 x3 h5 f5 K hK
    have rc := rc.fr f5 (by omega)
    have ra := ra.fr f5 (by omega)
    rw [bI]
    refine Fe _ _ _ _ _ rc (by simp [bK]) (by simp) fun w6 r6 f6 z6 => ?_
    have g6 := f6 (· = c) rfl
    exact hK w6 (ra.fr g6 (by omega)) (by simpa using r6) (h5.fr g6 (by omega) rc Pm) (hend f5 g6)
  cases (n == 3)
  case true =>
    rw [cond_true]
    refine nC (Eu hb) ?_
    rintro r0 r1 r2 r3 w5 ⟨h5, f5⟩
    exact inn h5 f5 fun w6 ra rc hb hf => hJ _ _ _ _ _ _ _ _ _ ra rc hb hf
  rw [cond_false]
  cases (n == 2)
  case true =>
    rw [cond_true]
    refine nC (Eu hb) ?_
    rintro r0 r1 r2 r3 w5 ⟨h5, f5⟩
    refine inn h5 f5 fun w6 ra rc hb hf => ?_
    have hf := hf.trans (Ext.drew w6)
    have ra := ra.drew
    have rc := rc.drew
    have hb := hb.ext (Ext.drew w6)
    generalize w6.drew = w6 at *
    simp -zeta only [sx, rc.cell]
    refine oC (Hl hb) ?_
    rintro r4 w7 ⟨h7, f7⟩
    have rc := rc.fr f7 (by omega)
    have ra := ra.fr f7 (by omega)
    simp -zeta only [sx, rc.cell, true_and]
    refine eF (qZ h7 65535) ?_
    rintro r5 w8 ⟨h8, f8⟩
    have rc := rc.fr f8 (by omega)
    have ra := ra.fr f8 (by omega)
    simp -zeta only [sx, rc.cell, true_and]
    refine Fe _ _ _ _ _ rc (by simp [bK]) (by simp) fun w9 r9 f9 z9 => ?_
    have g9 := f9 (· = c) rfl
    have f78 := f7.trans f8 fun _ _ e => e
    exact hJ w9 n r0 r1 r2 r3 r1 r4 r5 (ra.fr g9 (by omega)) (by simpa using r9) (h8.fr g9 (by omega) rc Pm) ((hf.new f78 fun x hx e => by omega).new g9 fun x hx e => by omega)
  rw [cond_false]
  exact hJ _ _ _ _ _ _ _ _ _ ra rc hb x4
theorem QF {w : World} (n : Int) : kV n w fun _ _ _ w' => Ext w w' := by
  apply Dv
  refine aU fun a w1 ra ea z1 f1 => ?_
  have h : ∀ (x : ByteArray) (y : Int) (K : World -> Prop), (∀ w2, Row w2 a [.string x, .int .i64 y] -> Ext w w2 -> K w2) -> mg [.string x, .int .i64 y] w1 ⟨a, 0, none⟩ 0 K :=
    fun x y K hK => iP ra rfl rfl fun w2 r2 f2 z2 => hK w2 r2 (f1.new (f2 (· = a) rfl) fun x hx e => by omega)
  cases (n == 1)
  case true => rw [cond_true]; exact h _ _ _ fun w2 r2 f2 => by simp only [sx, r2.cell]; exact f2
  rw [cond_false]
  cases (n == 2)
  case true => rw [cond_true]; exact h _ _ _ fun w2 r2 f2 => by simp only [sx, r2.cell]; exact f2
  rw [cond_false]
  cases (n == 3)
  case true => rw [cond_true]; exact h _ _ _ fun w2 r2 f2 => by simp only [sx, r2.cell]; exact f2
  rw [cond_false]
  cases (n == 4)
  case true => rw [cond_true]; exact h _ _ _ fun w2 r2 f2 => by simp only [sx, r2.cell]; exact f2
  rw [cond_false]
  exact h _ _ _ fun w2 r2 f2 => by simp only [sx, r2.cell]; exact f2
theorem Nu {w : World} (s : ByteArray) : mQ s w fun _ _ _ _ _ _ _ _ _ w' => Ext w w' := by
  apply Gl
  refine aU fun a w1 ra ea z1 f1 => ?_
  have fin : ∀ W x0 x1 x2 x3 x4 x5 x6 x7 (K : World -> Prop), Row W a (i8 0 0 0 0 0 0 0 0) -> Ext w W -> (∀ W', Row W' a (i8 x0 x1 x2 x3 x4 x5 x6 x7) -> Ext w W' -> K W') -> mg (i8 x0 x1 x2 x3 x4 x5 x6 x7) W ⟨a, 0, none⟩ 0 K :=
    fun W x0 x1 x2 x3 x4 x5 x6 x7 K hr hf hK => iP hr rfl rfl fun w2 r2 f2 z2 => hK w2 r2 (hf.new (f2 (· = a) rfl) fun x hx e => by omega)
  by_cases hl : (s.size : Int) > 200
  · rw [decide_eq_true hl, cond_true]
    exact fin _ _ _ _ _ _ _ _ _ _ ra f1 fun W r f => by simp only [sx, r.cell]; exact f
  rw [decide_eq_false hl, cond_false]
  refine qF (split_ok s 32 (by omega)) ?_
  rintro r w2 ⟨⟨xs, hx, h0, hle, hsz⟩, f2⟩
  have hlen := hx.len
  have ff := f1.trans f2
  have ra := ra.ext f2
  intro J
  have hJ : ∀ W, Row W a (i8 0 0 0 0 0 0 0 0) -> Ext w W -> J W := fun W hr hf => fin _ _ _ _ _ _ _ _ _ _ hr hf fun W r f => by simp only [sx, r.cell]; exact f
  refine bD (fun st W => ∃ j : Nat, st.1 = (j : Int) ∧ j <= 5 ∧ Row W a (i8 0 0 0 0 0 0 0 0) ∧ Ext w2 W) (fun st _ => (5 - st.1).toNat) ⟨1, rfl, by omega, ra, Ext.refl _⟩ ?_
  rintro ⟨i, ⟨⟩⟩ W ⟨j, hi, hj, ra, hf⟩ next hnext
  simp only at hi
  subst hi
  by_cases hlt : (j : Int) <= 4
  case neg =>
    simp -zeta only [hlt, decide_false, cond_false]
    exact hJ _ ra (ff.trans hf)
  simp -zeta only [hlt, decide_true, cond_true]
  refine DV (QF _) ?_
  intro r1 r2 r3 w3 f3
  refine ru rfl rfl fun t w4 rt et zt ft => ?_
  have hf := hf.trans (f3.trans (ft.trans (Ext.drew w4)))
  have ra := ra.ext (f3.trans (ft.trans (Ext.drew w4)))
  have rt := rt.drew
  intro J36
  generalize w4.drew = w4 at *
  have hxj := List.getElem?_eq_getElem h0
  simp -zeta only [sx, rt.cell]
  refine fH rH (by omega) (hx.ext hf) (by omega) (i := 0) hxj fun ad hc => ?_
  have c0 : w4.cell? (ad.add 0) = some (.string xs[0]) := hc 0 _ rfl
  rw [show ad.add 0 = ad from rfl] at c0
  simp -zeta only [sx, c0]
  have g1 : J36 true w4 := by
    simp -zeta only [J36, cond_true]
    refine hnext _ _ ⟨j + 1, ?_, by omega, ra, hf⟩ ?_
    · simp only; rw [wrap_i64 (by omega) (by omega)]; simp
    · simp only; rw [wrap_i64 (by omega) (by omega)]; omega
  have g0 : J36 false w4 := by
    simp -zeta only [J36, cond_false]
    refine EW rH (hx.ext hf) (by omega) (by omega) (by omega) fun s' hs' => ?_
    refine G9 (PV _ hs' fun x hx => hsz x (List.mem_of_mem_take (List.mem_of_mem_drop hx))) ?_
    intro x0 x1 x2 x3 x4 x5 x6 x7 x8 w5 f5
    refine ru rfl rfl fun t2 w6 rt2 et2 zt2 ft2 => ?_
    have f56 := f5.trans ft2
    have ra := ra.ext f56
    have hf := ff.trans (hf.trans f56)
    cases x8
    · exact hJ _ ra hf
    · simp -zeta only [Bool.not_true, cond_false, sx, rt2.cell]
      exact fin _ _ _ _ _ _ _ _ _ _ ra hf fun W r f => by simp only [sx, r.cell]; exact f
  cases strEq r1 xs[0]
  · exact g1
  · rw [Bool.not_true, cond_false]
    cases (r2 != (r.len : Int))
    · exact g0
    · exact g1
end Go.Proofs
end
section
namespace Go.Proofs
open Gp
set_option maxRecDepth 100000
set_option maxHeartbeats 1000000
theorem LQ {w : World} {s : ah} {xs : List T8} (hs : dQ 8 e8 w s xs) (hl : s.len <= 2 ^ 62) {k : Nat} {q0 q1 q2 q3 q4 q5 q6 : Int} {q7 : Bool} (hk : xs[k]? = some (q0, q1, q2, q3, q4, q5, q6, q7, ())) :
    aQ s q0 q1 q2 q3 q4 q5 q6 q7 w fun r w' => 0 <= r ∧ Ext w w' := by
  apply iw
  refine aU fun a w1 ra ea z1 f1 => ?_
  have hs1 := hs.ext f1
  have hlen := hs.len
  have hkl := (List.getElem?_eq_some_iff.1 hk).1
  refine bD (fun st W => ∃ j : Nat, j <= k ∧ st.1 = (j : Int) ∧ Ext w1 W) (fun st _ => (s.len - st.1).toNat) ⟨0, by omega, rfl, Ext.refl _⟩ ?_
  rintro ⟨i, ⟨⟩⟩ W ⟨j, hj, hi, hx⟩ next hnext
  simp only at hi
  subst hi
  have hlt : (j : Int) < (s.len : Int) := by omega
  simp only [hlt, decide_true, cond_true]
  have hx := hx.trans (Ext.drew W)
  have rw_ := ra.ext hx
  generalize W.drew = W at hx rw_ ⊢
  have hxj := List.getElem?_eq_getElem (show j < xs.length by omega)
  generalize xs[j] = x at hxj
  simp only [sx, rw_.cell]
  refine fH vw (by omega) (hs1.ext hx) (by omega) (by rw [Int.toNat_natCast]; exact hxj) fun a' hc => ?_
  obtain ⟨x0, x1, x2, x3, x4, x5, x6, x7, ⟨⟩⟩ := x
  have c0 : W.cell? (a'.add 0) = some (.int .i64 x0) := hc 0 _ rfl; have c1 : W.cell? (a'.add 1) = some (.int .i64 x1) := hc 1 _ rfl; have c2 : W.cell? (a'.add 2) = some (.int .i64 x2) := hc 2 _ rfl; have c3 : W.cell? (a'.add 3) = some (.int .i64 x3) := hc 3 _ rfl; have c4 : W.cell? (a'.add 4) = some (.int .i64 x4) := hc 4 _ rfl; have c5 : W.cell? (a'.add 5) = some (.int .i64 x5) := hc 5 _ rfl; have c6 : W.cell? (a'.add 6) = some (.int .i64 x6) := hc 6 _ rfl
  have c7 : W.cell? (a'.add 7) = some (.bool x7) := hc 7 _ rfl
  simp only [sx, c0, c1, c2, c3, c4, c5, c6, c7]
  rcases Nat.lt_or_ge j k with h | h
  · cases hb : (((q0 == x0) && ((q1 == x1) && ((q2 == x2) && ((q3 == x3) && true)))) && (((q4 == x4) && ((q5 == x5) && ((q6 == x6) && true))) && (((q7 : Bool) == x7) && true)))
    · rw [cond_false, wrap_i64 (by omega) (by omega)]
      exact hnext _ _ ⟨j + 1, by omega, by simp, hx⟩ (by simp only; omega)
    · rw [cond_true]
      exact ⟨by omega, f1.trans hx⟩
  · obtain rfl : j = k := by omega
    rw [hk] at hxj
    cases hxj
    simp only [beq_self_eq_true, Bool.and_true, cond_true]
    exact ⟨by omega, f1.trans hx⟩
theorem Fv {w : World} {s : ah} {xs : List T8} (hs : dQ 8 e8 w s xs) (hl : s.len <= 2 ^ 62) {k : Nat} {q0 q1 q2 q3 q4 q5 q6 : Int} {q7 : Bool} (hk : xs[k]? = some (q0, q1, q2, q3, q4, q5, q6, q7, ())) :
    aN s q0 q1 q2 q3 q4 q5 q6 q7 w fun r w' => r = true ∧ Ext w w' := by
  apply gy
  refine aU fun a w1 ra ea z1 f1 => ?_
  simp only [sx, ra.cell]
  refine iy (LQ (hs.ext f1) hl hk) ?_
  rintro r w' ⟨h, hf⟩
  exact ⟨decide_eq_true h, f1.trans hf⟩
abbrev Vj (v0 v3 v4 v5 : Int) (vb vs vc : ah) : List Value := [.int .i64 v0, .slice vb.a vb.len vb.cap, .slice vs.a vs.len vs.cap, .int .i64 v3, .int .i64 v4, .int .i64 v5, .slice vc.a vc.len vc.cap]
section
variable {v0 v3 v4 v5 : Int} {vb vs vc : ah} {bl : List T8}
theorem KN {f0 f1 : Nat} (hl : vb.len <= 2 ^ 62) : dN Tryz.prog [.one (.int .i64), .agg K8] (Value.func (.func wC) #[] #[.pointer (some ⟨f0, 0, none⟩), .pointer (some ⟨f1, 0, none⟩)])
    (fun W => Row W f0 (Vj v0 v3 v4 v5 vb vs vc) ∧ Row W f1 (Vj v0 v3 v4 v5 vb vs vc) ∧ dQ 8 e8 W vb bl) [] := by
  refine ⟨by kernel_rfl, fun l Q D hC hQ hD hy w h0 => ?_⟩
  refine Calls.mono (vW (a0 := .func (.yield l) #[] #[]) (f0 := ⟨f0, 0, none⟩) (f1 := ⟨f1, 0, none⟩) (w := w) (K := fun w' => Q 0 w' ∨ D w') ?_) (fun e w' h => h)
  obtain ⟨r0, r1, hs⟩ := hC _ _ h0
  simp -zeta only [sx, r0.cell]
  refine bD (fun st W => ∃ j : Nat, j <= bl.length ∧ st.1 = (j : Int) ∧ Q 0 W) (fun st _ => (vb.len - st.1).toNat) ⟨0, by omega, rfl, h0⟩ ?_
  rintro ⟨i, ⟨⟩⟩ W ⟨j, hj, hi, hq⟩ next hnext
  simp only at hi
  subst hi
  obtain ⟨r0, r1, hs⟩ := hC _ _ hq
  have hlen := hs.len
  by_cases hlt : (j : Int) < (vb.len : Int)
  · simp -zeta only [hlt, decide_true, cond_true]
    have hx := List.getElem?_eq_getElem (show j < bl.length by omega)
    generalize bl[j] = x at hx
    refine fH vw (by omega) hs (by omega) (by rw [Int.toNat_natCast]; exact hx) fun a hc => ?_
    obtain ⟨x0, x1, x2, x3, x4, x5, x6, x7, ⟨⟩⟩ := x
    have c0 : W.cell? (a.add 0) = some (.int .i64 x0) := hc 0 _ rfl; have c1 : W.cell? (a.add 1) = some (.int .i64 x1) := hc 1 _ rfl; have c2 : W.cell? (a.add 2) = some (.int .i64 x2) := hc 2 _ rfl; have c3 : W.cell? (a.add 3) = some (.int .i64 x3) := hc 3 _ rfl; have c4 : W.cell? (a.add 4) = some (.int .i64 x4) := hc 4 _ rfl; have c5 : W.cell? (a.add 5) = some (.int .i64 x5) := hc 5 _ rfl; have c6 : W.cell? (a.add 6) = some (.int .i64 x6) := hc 6 _ rfl
    have c7 : W.cell? (a.add 7) = some (.bool x7) := hc 7 _ rfl
    simp -zeta only [sx, c0, c1, c2, c3, c4, c5, c6, c7]
    refine ru rfl rfl fun t W1 rt et zt ft => ?_
    have r1 := r1.ext ft
    have hq1 := hQ _ _ _ hq ft
    intro J
    simp -zeta only [sx, r1.cell, rt.cell]
    refine gG (Fv (hs.ext ft) hl hx) ?_
    rintro r W2 ⟨rfl, f2⟩
    rw [Bool.not_true, cond_false]
    show (bif false then _ else _)
    rw [cond_false, wrap_i64 (by omega) (by omega)]
    exact hnext _ _ ⟨j + 1, by omega, by simp, hQ _ _ _ hq1 f2⟩ (by simp only; omega)
  · simp only [hlt, decide_false, cond_false]
    exact .inl hq
theorem u_ {w : World} (hb : dQ 8 e8 w vb bl) (hl : vb.len <= 2 ^ 62) : dL v0 vb vs v3 v4 v5 vc v0 vb vs v3 v4 v5 vc w fun v w' =>
    Ext w w' ∧ ∃ C, dN Tryz.prog [.one (.int .i64), .agg K8] v C [] ∧ ∀ W, Ext w' W -> C W := by
  apply yA
  refine aU fun a w1 ra ea z1 f1 => aU fun b w2 rb eb z2 f2 => ?_
  exact ⟨f1.trans f2, _, KN (v0 := v0) (v3 := v3) (v4 := v4) (v5 := v5) (vs := vs) (vc := vc) (bl := bl) hl, fun W hW => ⟨(ra.ext f2).ext hW, rb.ext hW, ((hb.ext f1).ext f2).ext hW⟩⟩
theorem JI {w : World} {v : Value} {C : World -> Prop} (hv : dN Tryz.prog [.one (.int .i64), .agg K8] v C []) (hC : ∀ W, Ext w W -> C W) :
    iW v w fun r w' => r.len = 0 ∧ Ext w w' := by
  apply D5
  refine aU fun a w1 ra ea z1 f1 => ?_
  have lq : oH none w1 = w1.heap.size + 1 := rfl
  refine mJ hv (fun _ W => Row W a [.slice none 0 0] ∧ Ext w W) (fun _ _ => False) (by simp) (fun W hx _ => ⟨ra.ext hx, f1.trans hx⟩) (fun _ W h => hC W h.2) ?_ (fun _ _ _ h => h.elim) (fun _ _ h => h.elim) ?_ ?_ (fun _ h => h.elim) (fun _ _ h => h.elim)
  · rintro i W W' ⟨h1, h2⟩ hf
    rw [lq] at hf
    exact ⟨h1.fr hf (by omega), h2.new hf fun x hx e => by omega⟩
  · intro i x W Kb hx
    simp at hx
  · rintro W ⟨h1, h2⟩ hm
    simp only [sx, h1.cell]
    exact ⟨hm rfl, by trivial, h2.new (bH.bZ W _ _) fun x hx e => by omega⟩
theorem QT {w : World} (hb : dQ 8 e8 w vb bl) (hl : vb.len <= 2 ^ 62) : kM v0 vb vs v3 v4 v5 vc v0 vb vs v3 v4 v5 vc w fun r w' => r.len = 0 ∧ Ext w w' := by
  apply DZ
  refine aU fun a w1 ra ea z1 f1 => aU fun b w2 rb eb z2 f2 => ?_
  have ra := ra.ext f2
  simp only [sx, ra.cell, rb.cell]
  refine lS (u_ ((hb.ext f1).ext f2) hl) ?_
  rintro v w3 ⟨f3, C, hv, hC⟩
  refine uQ (JI hv hC) ?_
  rintro r w4 ⟨h, f4⟩
  exact ⟨h, (f1.trans f2).trans (f3.trans f4)⟩
theorem PU {w : World} (hb : dQ 8 e8 w vb bl) (hl : vb.len <= 2 ^ 62) : kC v0 vb vs v3 v4 v5 vc v0 vb vs v3 v4 v5 vc w fun r w' => r.len = 0 ∧ Ext w w' := by
  apply DW
  refine aU fun a w1 ra ea z1 f1 => aU fun b w2 rb eb z2 f2 => ?_
  have ra := ra.ext f2
  simp only [sx, ra.cell, rb.cell]
  refine lS (u_ ((hb.ext f1).ext f2) hl) ?_
  rintro v w3 ⟨f3, C, hv, hC⟩
  refine uQ (JI hv hC) ?_
  rintro r w4 ⟨h, f4⟩
  exact ⟨h, (f1.trans f2).trans (f3.trans f4)⟩
theorem Jy {w : World} {c0 c1 c2 : Int} {s : ah} {l : List UInt8} (hs : Ak w s l) (hl : l.length <= 2 ^ 40) : gK c0 c1 c2 s w fun _ _ w' => Ext w w' := by
  apply yD
  refine aU fun a w1 ra ea z1 f1 => ?_
  simp -zeta only [sx, ra.cell]
  cases (c0 != 9)
  case true => rw [cond_true]; exact f1
  rw [cond_false]
  refine Ie (hs.ext f1) ?_
  refine Gj (Nu ⟨⟨l⟩⟩) ?_
  intro x0 x1 x2 x3 x4 x5 x6 x7 x8 w2 f2
  refine ru rfl rfl fun t w3 rt et zt ft => ?_
  have ff := (f1.trans f2).trans ft
  cases (x8 != 0)
  case true => rw [cond_true]; exact ff
  rw [cond_false]
  simp -zeta only [sx, rt.cell]
  intro J
  have h0 : J false := ff
  have h1 : J true := ff
  cases hb : (x0 == 1)
  · rw [cond_false]
    cases (x0 == 3)
    · exact h0
    · exact h1
  · rw [cond_true]; exact h1
theorem OI {w : World} {c0 c1 c2 : Int} {s : ah} {l : List UInt8} (hs : Ak w s l) (hsl : l.length <= 2 ^ 40) (hb : dQ 8 e8 w vb bl) (hl : vb.len <= 2 ^ 62) :
    jI v0 vb vs v3 v4 v5 vc v0 vb vs v3 v4 v5 vc c0 c1 c2 s w fun r w' => r = false ∧ Ext w w' := by
  apply Ce
  refine aU fun a w1 ra ea z1 f1 => aU fun b w2 rb eb z2 f2 => aU fun c w3 rc ec z3 f3 => aU fun d w4 rd ed z4 f4 => ?_
  have x4 := (f1.trans f2).trans (f3.trans f4)
  have ra := (ra.ext f2).ext (f3.trans f4)
  have rb := rb.ext (f3.trans f4)
  have rc := rc.ext f4
  simp -zeta only [sx, rc.cell]
  refine yg (Jy (hs.ext x4) hsl) ?_
  intro r1 r2 w5 f5
  refine aU fun e w6 re ee z6 f6 => aU fun f w7 rf ef z7 f7 => ?_
  refine dF (re.ext f7) rfl (by simp) fun w8 re8 f8 z8 => ?_
  refine dF (rf.fr (f8 (· = e) rfl) (by omega)) rfl (by simp) fun w9 rf9 f9 z9 => ?_
  have n8 := f8 (· = e) rfl
  have n9 := f9 (· = f) rfl
  have x5 := x4.trans f5
  have x7 := x5.trans (f6.trans f7)
  have s5 := f5.size
  have s6 := f6.size
  have x9 : Ext w w9 := (x7.new n8 fun x hx h => by have := x5.size; omega).new n9 fun x hx h => by have := x7.size; have := x5.size; omega
  have k57 := f5.trans (f6.trans f7)
  have ra := ((ra.ext k57).fr n8 (by omega)).fr n9 (by omega)
  have rb := ((rb.ext k57).fr n8 (by omega)).fr n9 (by omega)
  have rd := ((rd.ext k57).fr n8 (by omega)).fr n9 (by omega)
  have hb := hb.ext x9
  clear n8 n9 f8 f9
  simp only [sx, ra.cell, rb.cell]
  refine lS (u_ hb hl) ?_
  rintro v w10 ⟨f10, C, hv, hC⟩
  have lq : oH none w10 = w10.heap.size + 1 := rfl
  have s10 := f10.size
  refine mJ hv (fun _ W => Row W d [.bool false] ∧ Ext w10 W) (fun _ _ => False) (by simp) (fun W hx _ => ⟨(rd.ext f10).ext hx, hx⟩) (fun _ W h => hC W h.2) ?_ (fun _ _ _ h => h.elim) (fun _ _ h => h.elim) ?_ ?_ (fun _ h => h.elim) (fun _ _ h => h.elim)
  · rintro i W W' ⟨h1, h2⟩ hf
    rw [lq] at hf
    exact ⟨h1.fr hf (by omega), h2.new hf fun x hx e => by omega⟩
  · intro i x W Kb hx
    simp at hx
  · rintro W ⟨h1, h2⟩ hm
    refine dF h1 rfl (by simp) fun W1 r1 g1 y1 => ?_
    have g := g1 (· = d) rfl
    have hx := x9.size
    have hm := hm rfl
    refine ⟨?_, ?_⟩
    · rw [g.same _ (Array.getElem?_eq_some_iff.1 hm).1 (by omega)]; exact hm
    · have r2 := r1.fr (bH.bZ W1 w10.heap.size (.deferred none)) (by omega)
      simp only [sx, r2.cell, List.set_cons_zero]
      refine ⟨by trivial, ((x9.trans f10).trans h2).new g (fun x hx e => by omega) |>.new (bH.bZ W1 _ _) fun x hx e => by omega⟩
end
end Go.Proofs
end
section
namespace Go.Proofs
open Gp
set_option maxRecDepth 100000
set_option maxHeartbeats 1000000
section
variable {w : World} {p0 p1 p2 p3 p4 p5 p6 p7 p8 p9 p10 p11 p12 p13 p14 p15 : Int} {sw po : ah} {n18 n19 n20 n21 n22 n23 n24 n25 n26 n27 n28 n29 n30 n31 n32 n33 n34 : Int} {st : ah} {sl : List lg} {pl : List Int} {tl : List T7} {v0 v3 v4 v5 : Int} {vb vs vc : ah} {bl : List T8} {el : List T5}
theorem step_ok (hsw : dQ 16 e16 w sw sl) (hpo : dQ 1 eI w po pl) (hst : dQ 7 e7 w st tl) (lsw : sw.len <= 2 ^ 40) (lpo : po.len <= 2 ^ 40) (lst : st.len <= 2 ^ 40)
    (hb : dQ 8 e8 w vb bl) (he : dQ 5 e5 w vs el) (lb : vb.len <= 2 ^ 62) (le : vs.len <= 2 ^ 62) {c0 c1 c2 : Int} {s : ah} {l : List UInt8} (hs : Ak w s l) (hl : l.length <= 2 ^ 40) :
    kT p0 p1 p2 p3 p4 p5 p6 p7 p8 p9 p10 p11 p12 p13 p14 p15 sw po n18 n19 n20 n21 n22 n23 n24 n25 n26 n27 n28 n29 n30 n31 n32 n33 n34 st v0 vb vs v3 v4 v5 vc v0 vb vs v3 v4 v5 vc c0 c1 c2 s w fun r w' => (∃ rc, chk (p0, p1, p2, p3, p4, p5, p6, p7, p8, p9, p10, p11, p12, p13, p14, p15, ()) sw.len po.len st.len n18 n19 n20 n21 n22 n23 n24 n25 n26 n27 n28 n29 n30 n31 n32 n33 n34 sw.len sl pl tl rc ∧ Aq rc (Td bl) (Iq n20 bl []) (C_ vb.len vs.len n21 n22 n23 n24 v3 v4 v5) (bl.any (Uw pl n18 n19)) (el.any (UL vb.len)) r) ∧ Ext w w' := by
  apply DY
  refine aU fun a w1 ra ea z1 f1 => aU fun b w2 rb eb z2 f2 => aU fun c w3 rc ec z3 f3 => aU fun d w4 rd ed z4 f4 => ?_
  have xx := (f1.trans f2).trans (f3.trans f4)
  have ra := (ra.ext f2).ext (f3.trans f4)
  have rb := rb.ext (f3.trans f4)
  have rc := rc.ext f4
  simp -zeta only [sx, ra.cell, rc.cell]
  refine sV (D_ (hsw.ext xx) (hpo.ext xx) (hst.ext xx) lsw lpo lst (hb.ext xx) (he.ext xx) lb le) ?_
  rintro r w5 ⟨hr, f5⟩
  have xx := xx.trans f5
  have rb := rb.ext f5
  have rc := rc.ext f5
  have rd := rd.ext f5
  by_cases h0 : r = 0
  case neg =>
    rw [show (r != 0) = true by simpa using h0, cond_true]
    exact ⟨hr, xx⟩
  subst h0
  rw [show ((0 : Int) != 0) = false from rfl, cond_false]
  simp -zeta only [sx, rb.cell, rc.cell]
  refine Dz (PU (hb.ext xx) lb) ?_
  rintro rl w6 ⟨hrl, f6⟩
  have xx := xx.trans f6
  have rb := rb.ext f6
  have rc := rc.ext f6
  have rd := rd.ext f6
  intro J
  simp -zeta only [sx, rb.cell, rc.cell]
  rw [show decide (v0 < v0) = false by simp, cond_false]
  simp -zeta only [sx, rb.cell, rc.cell, rd.cell]
  refine Bf (OI (hs.ext xx) hl (hb.ext xx) lb) ?_
  rintro re w7 ⟨rfl, f7⟩
  simp -zeta only [J]
  rw [cond_false, hrl]
  exact ⟨hr, xx.trans f7⟩
theorem MW : mV v0 vb vs v3 v4 v5 vc w fun r w' => (r = true -> vb.len <= 40 ∧ vs.len <= 60) ∧ Ext w w' := by
  apply Fz
  refine aU fun a w1 ra ea z1 f1 => ?_
  simp only [sx, ra.cell]
  by_cases h1 : (vb.len : Int) <= 40
  · rw [decide_eq_true h1, cond_true]
    by_cases h2 : (vs.len : Int) <= 60
    · rw [decide_eq_true h2]; exact ⟨fun _ => by omega, f1⟩
    · rw [decide_eq_false h2]; exact ⟨fun h => (by cases h), f1⟩
  · rw [decide_eq_false h1, cond_false]; exact ⟨fun h => (by cases h), f1⟩
theorem Jq : jo p0 p1 p2 p3 p4 p5 p6 p7 p8 p9 p10 p11 p12 p13 p14 p15 sw po n18 n19 n20 n21 n22 n23 n24 n25 n26 n27 n28 n29 n30 n31 n32 n33 n34 st w fun r w' => (r = true -> sw.len <= 8 ∧ po.len <= 4 ∧ st.len <= 12) ∧ Ext w w' := by
  apply AZ
  refine aU fun a w1 ra ea z1 f1 => ?_
  simp only [sx, ra.cell]
  by_cases h1 : (sw.len : Int) <= 8
  · rw [decide_eq_true h1, cond_true]
    by_cases h2 : (po.len : Int) <= 4
    · rw [decide_eq_true h2, cond_true]; exact ⟨fun h => by have := of_decide_eq_true h; omega, f1⟩
    · rw [decide_eq_false h2, cond_false]; exact ⟨fun h => (by cases h), f1⟩
  · rw [decide_eq_false h1, cond_false]; exact ⟨fun h => (by cases h), f1⟩
theorem FQ (haw : ∀ W, gZ W fun r w' => r = true ∧ Ext W w') (hsw : dQ 16 e16 w sw sl) (hpo : dQ 1 eI w po pl) (hst : dQ 7 e7 w st tl)
    (hb : dQ 8 e8 w vb bl) (he : dQ 5 e5 w vs el) {c0 c1 c2 : Int} {s : ah} {l : List UInt8} (hs : Ak w s l) :
    o8 p0 p1 p2 p3 p4 p5 p6 p7 p8 p9 p10 p11 p12 p13 p14 p15 sw po n18 n19 n20 n21 n22 n23 n24 n25 n26 n27 n28 n29 n30 n31 n32 n33 n34 st v0 vb vs v3 v4 v5 vc c0 c1 c2 s w fun r w' => r = true ∧ Ext w w' := by
  apply vN
  refine aU fun a w1 ra ea z1 f1 => aU fun b w2 rb eb z2 f2 => aU fun c w3 rc ec z3 f3 => ?_
  have xx := (f1.trans f2).trans f3
  have ra := (ra.ext f2).ext f3
  have rb := rb.ext f3
  intro J
  have hJ : ∀ W, Ext w W -> J true W := by
    intro W hx
    simp -zeta only [J, cond_true]
    refine sH (haw W) ?_
    rintro r w' ⟨rfl, f⟩
    exact ⟨rfl, hx.trans f⟩
  simp -zeta only [sx, rb.cell]
  refine E5 MW ?_
  rintro r w4 ⟨h4, f4⟩
  have xx := xx.trans f4
  have ra := ra.ext f4
  have rb := rb.ext f4
  have rc := rc.ext f4
  cases r
  · exact hJ _ xx
  have h4 : vb.len <= 40 ∧ vs.len <= 60 := h4 rfl
  rw [Bool.not_true, cond_false]
  simp -zeta only [sx, ra.cell]
  refine BN Jq ?_
  rintro r w5 ⟨h5, f5⟩
  have xx := xx.trans f5
  have ra := ra.ext f5
  have rb := rb.ext f5
  have rc := rc.ext f5
  cases r
  · exact hJ _ xx
  have h5 : sw.len <= 8 ∧ po.len <= 4 ∧ st.len <= 12 := h5 rfl
  rw [Bool.not_true, cond_false]
  simp -zeta only [sx, rc.cell]
  by_cases h6 : (s.len : Int) > 300
  · rw [decide_eq_true h6]; exact hJ _ xx
  rw [decide_eq_false h6]
  simp -zeta only [J]
  rw [cond_false]
  clear hJ J
  have xx := xx.trans (Ext.drew _)
  have ra := ra.drew
  have rb := rb.drew
  have rc := rc.drew
  generalize w5.drew = w5 at *
  intro J
  simp -zeta only [sx, ra.cell, rb.cell, rc.cell]
  have hsl := hs.1
  refine Dp (step_ok (hsw.ext xx) (hpo.ext xx) (hst.ext xx) (Nat.le_trans h5.1 (by decide)) (Nat.le_trans h5.2.1 (by decide)) (Nat.le_trans h5.2.2 (by decide)) (hb.ext xx) (he.ext xx) (Nat.le_trans h4.1 (by decide)) (Nat.le_trans h4.2 (by decide)) (hs.ext xx) (by omega)) ?_
  rintro r w6 ⟨⟨k, hk, hr⟩, f6⟩
  have xx := xx.trans f6
  have ra := ra.ext f6
  have rb := rb.ext f6
  simp -zeta only [sx, tq, xB, ra.cell, rb.cell, true_and]
  refine sV (D_ (hsw.ext xx) (hpo.ext xx) (hst.ext xx) (Nat.le_trans h5.1 (by decide)) (Nat.le_trans h5.2.1 (by decide)) (Nat.le_trans h5.2.2 (by decide)) (hb.ext xx) (he.ext xx) (Nat.le_trans h4.1 (by decide)) (Nat.le_trans h4.2 (by decide))) ?_
  rintro r' w7 ⟨⟨k', hk', hr'⟩, f7⟩
  obtain rfl := PW hk hk'
  obtain rfl := GL hr hr'
  have xx := xx.trans f7
  have rb := rb.ext f7
  rw [show (r == r) = true by simp, cond_true]
  simp -zeta only [sx, rb.cell]
  refine DI (QT (hb.ext xx) (Nat.le_trans h4.1 (by decide))) ?_
  rintro r8 w8 ⟨h8, f8⟩
  rw [h8, show (((0 : Nat) : Int) == 0) = true from rfl, cond_true]
  refine sH (haw w8) ?_
  rintro r9 w9 ⟨rfl, f9⟩
  exact ⟨rfl, (xx.trans f8).trans f9⟩
end
end Go.Proofs
end
section
namespace Go.Proofs
open Gp Gp.Rn
set_option maxRecDepth 100000
def Vk : List (Nat × qA) :=
  (3, (.seq .leaf (.seq (.seq .leaf (.cond (.seq .leaf .leaf) .leaf)) (.seq .leaf .leaf)))) ::
  (4, (.seq .leaf (.seq .leaf .leaf))) ::
  (5, (.seq .leaf (.seq .leaf .leaf))) ::
  (6, (.seq .leaf (.seq .leaf (.seq .leaf (.seq .leaf (.seq .leaf .leaf)))))) ::
  (7, (.seq .leaf (.seq (.seq .leaf (.seq .leaf (.cond (.seq .leaf .leaf) .leaf))) (.seq .leaf (.seq (.blk (.seq (.seq .leaf (.cond .leaf .leaf)) (.cond (.seq .leaf .leaf) (.seq .leaf (.cond (.seq .leaf .leaf) (.seq .leaf (.cond (.seq .leaf .leaf) .leaf))))))) (.seq .leaf .leaf)))))) ::
  (8, (.seq .leaf (.seq (.seq .leaf (.seq .leaf (.cond (.seq .leaf .leaf) .leaf))) (.seq .leaf (.seq (.blk (.seq .leaf (.cond (.seq .leaf .leaf) (.seq .leaf (.cond (.seq .leaf .leaf) (.seq .leaf (.cond (.seq .leaf .leaf) (.seq .leaf (.cond (.seq .leaf .leaf) (.seq .leaf (.cond (.seq .leaf .leaf) .leaf))))))))))) (.seq .leaf .leaf)))))) ::
  (9, (.seq .leaf (.seq .leaf .leaf))) ::
  (10, (.seq .leaf (.seq .leaf .leaf))) ::
  (11, (.seq .leaf (.seq .leaf .leaf))) ::
  (12, (.seq .leaf (.seq .leaf (.seq .leaf (.seq (.seq .leaf (.blk (.rng [.one (.int .i64), .agg [(.int .i64), (.int .i64), (.int .i64), (.int .i64), (.int .i64), (.int .i64), (.int .i64), .bool]] (.seq .leaf .leaf) (.blk (.seq (.seq .leaf (.cond .leaf .leaf)) (.seq .leaf (.cond (.seq .leaf .leaf) .leaf))))))) (.seq .leaf .leaf)))))) ::
  (13, (.seq .leaf (.seq (.seq .leaf (.blk (.seq (.seq .leaf (.cond .leaf .leaf)) (.cond (.seq .leaf .leaf) .leaf)))) (.seq .leaf .leaf)))) ::
  (14, (.seq .leaf (.seq (.seq .leaf (.blk (.loop [(8, (.int .i64))] (.seq .leaf (.seq (.cond .leaf .leaf) (.seq (.blk (.seq .leaf (.seq .leaf (.cond (.seq .leaf .leaf) .leaf)))) .leaf)))))) (.seq (.seq .leaf (.cond (.seq .leaf .leaf) .leaf)) (.seq (.seq .leaf (.cond (.seq .leaf .leaf) .leaf)) (.seq .leaf .leaf)))))) ::
  (15, (.seq .leaf (.seq .leaf .leaf))) ::
  (16, (.seq .leaf (.seq .leaf .leaf))) ::
  (17, (.seq .leaf (.seq .leaf (.seq (.seq .leaf (.blk (.loop [(12, (.int .i64))] (.seq .leaf (.seq (.cond .leaf .leaf) (.seq (.blk (.seq .leaf (.seq .leaf (.seq .leaf (.cond (.seq .leaf .leaf) .leaf))))) .leaf)))))) (.seq .leaf .leaf))))) ::
  (18, (.seq .leaf (.seq .leaf (.seq .leaf (.seq .leaf (.seq .leaf .leaf)))))) ::
  (19, (.seq .leaf (.seq .leaf .leaf))) ::
  (20, (.seq .leaf (.seq .leaf .leaf))) ::
  (21, (.seq .leaf (.seq .leaf .leaf))) ::
  (22, (.seq .leaf (.seq .leaf (.seq (.seq .leaf (.blk (.rng [.one (.int .i64), .agg [(.int .i64), (.int .i64), (.int .i64), (.int .i64), (.int .i64), (.int .i64), (.int .i64), .bool]] .leaf (.blk .leaf)))) (.seq .leaf .leaf))))) ::
  (23, (.seq .leaf (.seq .leaf .leaf))) ::
  (24, (.seq .leaf (.seq .leaf (.seq (.seq .leaf (.blk (.loop [(4, (.int .i64))] (.seq (.seq .leaf (.cond .leaf .leaf)) (.seq (.blk (.seq .leaf .leaf)) .leaf))))) (.seq .leaf .leaf))))) ::
  (25, (.seq .leaf (.seq (.seq .leaf (.cond (.seq .leaf .leaf) .leaf)) (.seq .leaf (.seq (.seq .leaf (.cond (.seq .leaf .leaf) .leaf)) (.seq (.seq .leaf (.blk (.seq (.seq .leaf (.cond .leaf .leaf)) (.cond (.seq .leaf .leaf) .leaf)))) (.seq .leaf .leaf))))))) ::
  (26, (.seq .leaf (.seq .leaf (.seq (.seq .leaf (.blk (.loop [(5, (.int .i64)), (11, (.int .i64))] (.seq .leaf (.seq (.cond .leaf .leaf) (.seq (.blk (.seq .leaf (.seq .leaf (.cond .leaf .leaf)))) .leaf)))))) (.seq .leaf .leaf))))) ::
  (27, (.seq .leaf (.seq .leaf .leaf))) ::
  (28, (.seq .leaf (.seq .leaf .leaf))) ::
  (29, (.seq .leaf (.seq .leaf .leaf))) ::
  (30, (.seq .leaf (.seq .leaf (.seq .leaf (.seq .leaf (.seq (.blk (.seq (.seq .leaf (.cond .leaf .leaf)) (.cond (.seq .leaf .leaf) (.seq (.seq .leaf (.cond .leaf .leaf)) (.cond (.seq .leaf .leaf) .leaf))))) (.seq .leaf .leaf))))))) ::
  (31, (.seq .leaf (.seq .leaf (.seq .leaf (.seq .leaf (.seq (.seq .leaf (.cond (.seq .leaf .leaf) .leaf)) (.seq .leaf (.seq (.seq .leaf (.blk (.loop [(46, (.int .i64))] (.seq .leaf (.seq (.cond .leaf .leaf) (.seq (.blk (.seq .leaf .leaf)) .leaf)))))) (.seq .leaf .leaf))))))))) ::
  (32, (.seq .leaf (.seq .leaf (.seq (.seq .leaf (.blk (.rng [.agg [(.int .i64), (.int .i64), (.int .i64), (.int .i64)]] .leaf (.blk (.seq (.seq .leaf (.cond (.seq .leaf .leaf) .leaf)) .leaf))))) (.seq .leaf .leaf))))) ::
  (33, (.seq .leaf (.seq .leaf .leaf))) ::
  (34, (.seq .leaf (.seq .leaf .leaf))) ::
  (35, (.seq .leaf (.seq .leaf (.seq (.seq .leaf (.blk (.rng [.agg [(.int .i64), (.int .i64), (.int .i64)]] .leaf (.blk (.seq (.seq .leaf (.cond (.seq .leaf .leaf) .leaf)) .leaf))))) (.seq .leaf .leaf))))) ::
  (36, (.seq .leaf (.seq .leaf .leaf))) ::
  (37, (.seq .leaf (.seq .leaf .leaf))) ::
  (38, (.seq .leaf (.seq (.seq .leaf (.blk (.loop [(8, (.int .i64))] (.seq .leaf (.seq (.cond .leaf .leaf) (.seq (.blk (.seq .leaf (.seq .leaf (.cond (.seq .leaf .leaf) .leaf)))) .leaf)))))) (.seq .leaf .leaf)))) ::
  (39, (.seq .leaf (.seq (.seq .leaf (.cond (.seq .leaf .leaf) .leaf)) (.seq .leaf .leaf)))) ::
  (40, (.seq .leaf (.seq .leaf .leaf))) ::
  (41, (.seq .leaf (.seq (.seq .leaf (.blk (.loop [(8, (.int .i64))] (.seq .leaf (.seq (.cond .leaf .leaf) (.seq (.blk (.seq .leaf (.seq .leaf (.cond (.seq .leaf .leaf) .leaf)))) .leaf)))))) (.seq .leaf .leaf)))) ::
  (42, (.seq .leaf (.blk (.loop [(9, (.int .i64))] (.seq .leaf (.seq (.cond .leaf .leaf) (.seq (.blk (.seq .leaf (.seq .leaf (.cond .leaf .leaf)))) .leaf))))))) ::
  (43, (.seq .leaf (.seq .leaf .leaf))) ::
  (44, (.seq .leaf (.seq (.seq .leaf (.cond (.seq .leaf .leaf) .leaf)) (.seq .leaf (.seq .leaf (.seq (.seq .leaf (.blk (.loop [(5, (.int .i64))] (.seq (.seq .leaf (.cond .leaf .leaf)) (.seq (.blk (.seq .leaf (.seq (.seq .leaf (.cond .leaf .leaf)) (.seq .leaf (.seq (.seq .leaf (.cond .leaf .leaf)) (.seq .leaf .leaf)))))) .leaf))))) (.seq .leaf .leaf))))))) ::
  (45, (.seq .leaf (.seq .leaf .leaf))) ::
  (46, (.seq .leaf (.seq .leaf (.seq .leaf .leaf)))) ::
  (47, (.seq .leaf (.seq .leaf .leaf))) ::
  (48, (.seq .leaf (.seq (.seq .leaf (.cond (.seq .leaf .leaf) .leaf)) (.seq .leaf .leaf)))) ::
  (49, (.seq .leaf (.seq .leaf .leaf))) ::
  (50, (.seq .leaf (.seq .leaf (.seq .leaf (.seq .leaf (.seq .leaf .leaf)))))) ::
  (51, (.seq .leaf (.seq .leaf .leaf))) ::
  (52, (.seq .leaf (.seq .leaf .leaf))) ::
  (53, (.seq .leaf (.seq .leaf .leaf))) ::
  (54, (.seq .leaf (.seq (.seq .leaf (.cond (.seq .leaf .leaf) .leaf)) (.seq .leaf .leaf)))) ::
  (55, (.seq .leaf (.seq .leaf .leaf))) ::
  (56, (.seq .leaf (.seq .leaf .leaf))) ::
  (57, (.seq .leaf (.seq .leaf (.seq (.seq .leaf (.blk (.rng [.agg [(.int .u8), (.int .u8), (.int .u8), (.int .u8), (.int .u8), (.int .u8), (.int .u8), (.int .u8), (.int .u8), (.int .u8), (.int .u8), (.int .u8), (.int .u8), (.int .u8), (.int .u8), (.int .u8)]] .leaf (.blk (.seq (.seq .leaf (.cond (.seq .leaf .leaf) .leaf)) .leaf))))) (.seq .leaf .leaf))))) ::
  (58, (.seq .leaf (.seq .leaf .leaf))) ::
  (59, (.seq .leaf (.seq .leaf .leaf))) ::
  (60, (.seq .leaf (.seq .leaf (.seq (.seq .leaf (.blk (.rng [.one (.int .i64)] .leaf (.blk (.seq (.seq .leaf (.cond (.seq .leaf .leaf) .leaf)) .leaf))))) (.seq .leaf .leaf))))) ::
  (61, (.seq .leaf (.seq .leaf .leaf))) ::
  (62, (.seq .leaf (.seq .leaf .leaf))) ::
  (63, (.seq .leaf (.seq .leaf (.seq (.seq .leaf (.blk (.rng [.agg [(.int .i64), (.int .i64), (.int .i64), (.int .i64)]] .leaf (.blk (.seq (.seq .leaf (.cond (.seq .leaf .leaf) .leaf)) .leaf))))) (.seq .leaf .leaf))))) ::
  (64, (.seq .leaf (.seq .leaf .leaf))) ::
  (65, (.seq .leaf (.seq .leaf (.seq (.seq .leaf (.blk (.rng [.agg [(.int .i64), (.int .i64), (.int .i64)]] .leaf (.blk (.seq (.seq .leaf (.cond (.seq .leaf .leaf) .leaf)) .leaf))))) (.seq .leaf .leaf))))) ::
  (66, (.seq .leaf (.seq .leaf .leaf))) ::
  (67, (.seq .leaf (.seq .leaf .leaf))) ::
  (68, (.seq .leaf (.blk (.loop [(8, (.int .i64))] (.seq .leaf (.seq (.cond .leaf .leaf) (.seq (.blk (.seq .leaf (.seq .leaf (.cond .leaf .leaf)))) .leaf))))))) ::
  (69, (.seq .leaf (.blk (.loop [(8, (.int .i64))] (.seq .leaf (.seq (.cond .leaf .leaf) (.seq (.blk (.seq .leaf (.seq .leaf (.cond .leaf .leaf)))) .leaf))))))) ::
  (70, (.seq .leaf (.seq (.seq .leaf (.blk (.loop [(8, (.int .i64))] (.seq .leaf (.seq (.cond .leaf .leaf) (.seq (.blk (.seq .leaf (.seq .leaf (.cond (.seq .leaf .leaf) .leaf)))) .leaf)))))) (.seq .leaf .leaf)))) ::
  (71, (.seq .leaf (.seq (.seq .leaf (.blk (.loop [(8, (.int .i64))] (.seq .leaf (.seq (.cond .leaf .leaf) (.seq (.blk (.seq .leaf (.seq .leaf (.cond (.seq .leaf .leaf) .leaf)))) .leaf)))))) (.seq .leaf .leaf)))) ::
  (72, (.seq .leaf (.seq .leaf .leaf))) ::
  (73, (.seq .leaf (.seq (.seq .leaf (.blk (.seq .leaf (.cond (.seq .leaf .leaf) (.seq .leaf (.cond (.seq .leaf .leaf) (.seq .leaf (.cond (.seq .leaf .leaf) (.seq .leaf (.cond (.seq .leaf .leaf) .leaf)))))))))) (.seq .leaf .leaf)))) ::
  (74, (.seq .leaf (.seq .leaf (.seq .leaf (.seq (.seq .leaf (.blk (.seq .leaf (.cond .leaf (.seq .leaf (.cond .leaf (.seq .leaf (.cond (.seq .leaf .leaf) .leaf)))))))) (.seq .leaf .leaf)))))) ::
  (75, (.seq .leaf (.seq .leaf .leaf))) ::
  (76, (.seq .leaf (.seq (.seq .leaf (.blk (.loop [(9, (.int .i64))] (.seq .leaf (.seq (.cond .leaf .leaf) (.seq (.blk (.seq .leaf (.seq .leaf (.cond (.seq .leaf .leaf) .leaf)))) .leaf)))))) (.seq .leaf .leaf)))) ::
  (77, (.seq .leaf (.seq .leaf .leaf))) ::
  (78, (.seq .leaf (.seq (.seq .leaf (.blk (.loop [(8, (.int .i64))] (.seq .leaf (.seq (.cond .leaf .leaf) (.seq (.blk (.seq .leaf (.seq .leaf (.cond (.seq .leaf .leaf) .leaf)))) .leaf)))))) (.seq .leaf .leaf)))) ::
  (79, (.seq .leaf (.seq (.seq .leaf (.blk (.loop [(8, (.int .i64))] (.seq .leaf (.seq (.cond .leaf .leaf) (.seq (.blk (.seq .leaf (.seq .leaf (.cond (.seq .leaf .leaf) .leaf)))) .leaf)))))) (.seq .leaf .leaf)))) ::
  (80, (.seq .leaf (.seq (.seq .leaf (.blk (.loop [(8, (.int .i64))] (.seq .leaf (.seq (.cond .leaf .leaf) (.seq (.blk (.seq .leaf (.seq .leaf (.cond (.seq .leaf .leaf) .leaf)))) .leaf)))))) (.seq .leaf .leaf)))) ::
  (81, (.seq .leaf (.blk (.loop [(8, (.int .i64))] (.seq .leaf (.seq (.cond .leaf .leaf) (.seq (.blk (.seq .leaf (.seq .leaf (.cond .leaf .leaf)))) .leaf))))))) ::
  (82, (.seq .leaf (.blk (.loop [(8, (.int .i64))] (.seq .leaf (.seq (.cond .leaf .leaf) (.seq (.blk (.seq .leaf (.seq .leaf (.cond .leaf .leaf)))) .leaf))))))) ::
  (83, (.seq .leaf (.blk (.loop [(8, (.int .i64))] (.seq .leaf (.seq (.cond .leaf .leaf) (.seq (.blk (.seq .leaf (.seq .leaf (.cond .leaf .leaf)))) .leaf))))))) ::
  (84, (.seq .leaf (.blk (.loop [(8, (.int .i64))] (.seq .leaf (.seq (.cond .leaf .leaf) (.seq (.blk (.seq .leaf (.seq .leaf (.cond .leaf .leaf)))) .leaf))))))) ::
  (85, (.seq .leaf (.seq (.seq .leaf (.cond (.seq .leaf .leaf) .leaf)) (.seq (.seq .leaf (.cond (.seq .leaf .leaf) .leaf)) (.seq (.seq .leaf (.cond .leaf .leaf)) (.seq .leaf (.seq .leaf (.seq .leaf (.seq .leaf (.seq (.blk (.loop [(0, .str), (10, (.int .i64))] (.seq (.seq .leaf (.cond .leaf .leaf)) (.blk (.seq .leaf (.seq (.seq .leaf (.cond .leaf .leaf)) (.seq .leaf (.seq .leaf .leaf)))))))) (.seq .leaf (.seq .leaf .leaf)))))))))))) ::
  (86, (.seq .leaf (.seq .leaf (.seq .leaf (.seq .leaf .leaf))))) ::
  (87, (.seq .leaf (.seq .leaf .leaf))) ::
  (88, (.seq .leaf (.seq .leaf (.seq .leaf (.seq .leaf .leaf))))) ::
  (89, (.seq .leaf (.seq .leaf (.seq .leaf .leaf)))) ::
  (90, (.seq .leaf (.seq .leaf (.seq (.seq .leaf (.cond .leaf .leaf)) (.seq .leaf (.seq (.seq .leaf (.blk (.loop [(0, .str), (7, (.int .i64))] (.seq (.seq .leaf (.cond .leaf .leaf)) (.seq (.blk (.seq .leaf (.seq .leaf .leaf))) .leaf))))) (.seq (.seq .leaf (.cond .leaf .leaf)) (.seq .leaf .leaf)))))))) ::
  (91, (.seq .leaf (.seq (.seq .leaf (.cond (.seq .leaf .leaf) .leaf)) (.seq (.seq .leaf (.cond (.seq .leaf .leaf) .leaf)) (.seq .leaf (.blk (.loop [(0, .str), (5, (.int .i64))] (.blk (.seq .leaf (.seq (.seq .leaf (.cond (.seq .leaf .leaf) .leaf)) (.seq .leaf .leaf))))))))))) ::
  (92, (.seq .leaf (.seq .leaf .leaf))) ::
  (93, (.seq .leaf (.seq (.seq .leaf (.cond (.seq .leaf .leaf) .leaf)) (.seq .leaf (.seq (.seq .leaf (.blk (.loop [(6, (.int .i64)), (30, (.int .i64))] (.seq .leaf (.seq (.cond .leaf .leaf) (.seq (.blk (.seq .leaf (.seq (.seq .leaf (.cond (.seq .leaf .leaf) .leaf)) .leaf))) .leaf)))))) (.seq (.seq .leaf (.cond (.seq .leaf .leaf) .leaf)) (.seq .leaf .leaf))))))) ::
  (94, (.seq .leaf (.seq (.seq .leaf (.cond (.seq .leaf (.seq .leaf .leaf)) .leaf)) (.seq .leaf (.seq .leaf (.seq .leaf .leaf)))))) ::
  (95, (.seq .leaf (.seq .leaf (.seq .leaf (.seq .leaf .leaf))))) ::
  (96, (.seq .leaf (.seq .leaf (.seq (.seq .leaf (.cond (.seq .leaf .leaf) .leaf)) (.seq .leaf (.seq (.seq .leaf (.blk (.loop [(5, (.int .i64)), (17, (.int .i64))] (.seq .leaf (.seq (.cond .leaf .leaf) (.seq (.blk (.seq .leaf (.seq .leaf (.seq (.seq .leaf (.cond (.seq .leaf .leaf) .leaf)) .leaf)))) .leaf)))))) (.seq .leaf .leaf))))))) ::
  (98, (.seq .leaf (.seq (.seq .leaf (.cond (.seq .leaf .leaf) .leaf)) .leaf))) ::
  (100, (.seq .leaf (.seq .leaf (.seq (.blk (.seq .leaf (.cond (.seq .leaf .leaf) (.seq .leaf (.cond (.seq .leaf .leaf) (.seq .leaf (.cond (.seq .leaf .leaf) (.seq .leaf (.cond (.seq .leaf .leaf) .leaf))))))))) (.seq .leaf (.seq .leaf (.seq .leaf (.seq .leaf (.seq .leaf (.seq (.blk (.loop [(8, (.int .i64)), (10, (.int .i64))] (.seq (.seq .leaf (.cond .leaf .leaf)) (.blk (.seq (.seq .leaf (.cond (.seq .leaf (.seq (.seq .leaf (.cond (.seq .leaf .leaf) .leaf)) .leaf)) .leaf)) (.seq (.seq .leaf (.cond (.seq .leaf .leaf) .leaf)) (.seq .leaf (.seq .leaf (.seq .leaf (.cond (.seq .leaf (.seq (.seq .leaf (.cond (.seq .leaf .leaf) .leaf)) (.seq .leaf .leaf))) (.seq .leaf (.cond (.seq .leaf (.seq (.seq .leaf (.cond (.seq .leaf .leaf) .leaf)) (.seq .leaf .leaf))) .leaf)))))))))))) (.seq .leaf .leaf))))))))))) ::
  (101, (.seq .leaf (.seq (.seq .leaf (.blk (.loop [(8, (.int .i64))] (.seq .leaf (.seq (.cond .leaf .leaf) (.seq (.blk (.seq .leaf (.seq .leaf (.cond (.seq .leaf .leaf) .leaf)))) .leaf)))))) (.seq .leaf .leaf)))) ::
  (102, (.seq .leaf (.seq (.seq .leaf (.cond (.seq .leaf .leaf) .leaf)) (.seq .leaf (.seq (.seq .leaf (.blk (.loop [(4, (.int .i64)), (28, (.int .i64))] (.seq .leaf (.seq (.cond .leaf .leaf) (.seq (.blk (.seq .leaf (.seq (.seq .leaf (.cond (.seq .leaf .leaf) .leaf)) .leaf))) .leaf)))))) (.seq .leaf .leaf)))))) ::
  (103, (.seq .leaf (.seq .leaf (.seq (.seq .leaf (.cond (.seq .leaf .leaf) .leaf)) (.seq .leaf (.seq .leaf (.seq (.seq .leaf (.cond (.seq .leaf (.seq .leaf .leaf)) .leaf)) (.seq .leaf (.seq .leaf (.seq (.seq .leaf (.cond (.seq .leaf .leaf) .leaf)) (.seq .leaf (.seq (.seq .leaf (.cond (.seq .leaf .leaf) .leaf)) (.seq (.seq .leaf (.cond (.seq .leaf .leaf) .leaf)) (.seq .leaf (.seq (.seq .leaf (.cond (.seq .leaf .leaf) .leaf)) (.seq (.seq .leaf (.cond (.seq .leaf .leaf) .leaf)) (.seq .leaf (.seq (.seq .leaf (.cond (.seq .leaf .leaf) .leaf)) (.seq .leaf .leaf))))))))))))))))))) ::
  (104, (.seq .leaf (.seq .leaf .leaf))) ::
  (106, (.seq .leaf (.seq .leaf .leaf))) ::
  (107, (.seq .leaf (.seq .leaf (.seq .leaf (.seq .leaf (.seq (.seq .leaf (.blk (.loop [(8, (.int .u32)), (9, (.int .i64))] (.seq (.seq .leaf (.cond .leaf .leaf)) (.seq (.blk .leaf) .leaf))))) (.seq (.seq .leaf (.cond (.seq .leaf .leaf) .leaf)) (.seq (.seq .leaf (.blk (.loop [(8, (.int .u32)), (10, (.int .i64))] (.seq (.seq .leaf (.cond .leaf .leaf)) (.blk (.seq .leaf (.seq .leaf (.seq .leaf (.seq .leaf (.seq .leaf (.cond (.seq .leaf .leaf) .leaf))))))))))) (.seq .leaf .leaf))))))))) ::
  (108, (.seq .leaf (.seq (.seq .leaf (.blk (.seq .leaf (.cond (.seq .leaf .leaf) (.seq .leaf (.cond (.seq .leaf .leaf) (.seq .leaf (.cond (.seq .leaf .leaf) .leaf)))))))) (.seq .leaf .leaf)))) ::
  (110, (.seq .leaf (.seq .leaf (.seq (.seq .leaf (.blk (.loop [(4, (.int .u32)), (5, (.int .i64))] (.seq (.seq .leaf (.cond .leaf .leaf)) (.seq (.blk .leaf) .leaf))))) (.seq .leaf (.seq (.seq .leaf (.blk (.loop [(6, (.int .u32)), (7, (.int .u32)), (8, (.int .i64))] (.seq (.seq .leaf (.cond .leaf .leaf)) (.seq (.blk (.seq (.seq .leaf (.cond .leaf .leaf)) .leaf)) .leaf))))) (.seq .leaf .leaf))))))) ::
  []
def lookA : List (Nat × qA) -> Nat -> Option qA
  | [], _ => none
  | (i, a) :: r, n => cond (Nat.beq i n) (some a) (lookA r n)
def ans : Nat -> Option qA := lookA Vk
end Go.Proofs
end
section
namespace Go.Proofs
open Gp Gp.Rn
set_option maxRecDepth 100000
theorem Lm : TI Tryz.prog ⟨ans, []⟩ 3000 6 (fun rs _ => match rs with
    | [.bool true] => true
    | _ => false) = true := by kernel_rfl
theorem NI (w : World) : gZ w fun r w' => r = true ∧ Ext w w' :=
  Calls.mono (QO dW (fun w => Oa _ w) Lm w) fun _ _ ⟨h, hx⟩ => ⟨true, h, rfl, hx⟩
end Go.Proofs
end
