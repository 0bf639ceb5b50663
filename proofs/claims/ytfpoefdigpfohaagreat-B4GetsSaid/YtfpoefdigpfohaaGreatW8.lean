import Derived.Test.YtfpoefdigpfohaaGreatGt2
section
namespace Go.Proofs
open Gp Gp.V4
set_option maxRecDepth 100000
set_option maxHeartbeats 1000000
theorem O_ {w : World} {b : Nat} {l : List Int} {vs : List Value} (h : Row w b vs) (hv : vs = l.map fun n => Value.int .i64 n) (n c : Nat) (hn : n = l.length) (hl : l.length <= 100) (x : Int) : dJ ⟨some ⟨b, 0, none⟩, n, c⟩ x w fun r w' => (r >= 0 ↔ x ∈ l) ∧ w' = w := by
  subst hv hn
  apply qR
  refine bn (fun st W => W = w ∧ ∃ i : Nat, i <= l.length ∧ st.1 = (i : Int) ∧ x ∉ l.take i) (fun st _ => l.length - st.1.toNat) ⟨rfl, 0, by omega, rfl, by simp⟩ ?_
  rintro ⟨y, ⟨⟩⟩ W ⟨rfl, i, hi, rfl, hp⟩ next hnext
  by_cases hlt : i < l.length
  · have hlt' : ((i : Int) < (l.length : Int)) := by omega
    simp only [sx, hlt', decide_true, h.cell, Int.toNat_natCast, Nat.mul_one, List.getElem?_map, List.getElem?_eq_getElem hlt, Option.map_some]
    refine ⟨by omega, by trivial, ?_⟩
    by_cases hx : x = l[i]
    · simp only [uS, hx, decide_true, cond_true]
      exact ⟨⟨fun _ => List.getElem_mem hlt, fun _ => by omega⟩, by trivial⟩
    · simp only [uS, hx, decide_false, cond_false]
      rw [wrap_i64 (by omega) (by omega)]
      refine hnext _ _ ⟨rfl, i + 1, by omega, by simp, ?_⟩ (by simp only; omega)
      rw [List.take_succ_eq_append_getElem hlt, List.mem_append]
      rintro (h | h)
      · exact hp h
      · simp only [List.mem_singleton] at h; exact hx h
  · have hlt' : ¬ ((i : Int) < (l.length : Int)) := by omega
    simp only [hlt', decide_false, cond_false]
    have : i = l.length := by omega
    subst this
    rw [List.take_length] at hp
    exact ⟨⟨fun h => by omega, fun h => absurd h hp⟩, by trivial⟩
theorem GR {w : World} {b : Nat} {l : List Int} {vs : List Value} (h : Row w b vs) (hv : vs = l.map fun n => Value.int .i64 n) (n c : Nat) (hn : n = l.length) (hl : l.length <= 100) (x : Int) : b_ ⟨some ⟨b, 0, none⟩, n, c⟩ x w fun r w' => r = decide (x ∈ l) ∧ w' = w := by
  apply o_
  refine qU (O_ h hv n c hn hl x) ?_
  rintro r w' ⟨hr, hw⟩
  exact ⟨decide_eq_decide.2 hr, hw⟩
theorem Tm (k : Int) (w : World) : kQ k w fun r w' => r = decide (Hu k) ∧ Ext w w' := by
  apply ER
  refine aK fun a w1 r1 e1 z1 f1 => ?_
  apply Le
  refine oQ (GR (l := [3, 4, 5, 11, 12]) r1 rfl 5 5 rfl (by decide) k) ?_
  rintro _ w2 ⟨rfl, hw⟩
  subst hw
  refine ⟨decide_eq_decide.2 ?_, f1⟩
  simp only [List.mem_cons, List.not_mem_nil, or_false, Hu]
  omega
theorem Vt (base bits a : Int) (k b : Nat) (hb : base = (b : Int)) (hk : bits = 32 - (k : Int)) (hk2 : k <= 32) (w : World) : g_ base bits a w fun r w' => r = decide (eU a ∧ a / (2 ^ k : Nat) = ((b / 2 ^ k : Nat) : Int)) ∧ Ext w w' := by
  subst hb hk
  apply yU
  refine aK fun c w1 r1 e1 z1 f1 => ?_
  simp only [sx, r1.cell]
  refine mF (rV _ _) ?_
  rintro _ w2 ⟨rfl, hw⟩
  subst hw
  have x2 := f1.trans (Ext.drew w1)
  have e32 : IntKind.i64.wrap (32 - (32 - (k : Int))) = (k : Int) := by rw [wrap_i64 (by omega) (by omega)]; omega
  by_cases hr : eU a
  · simp only [hr, decide_true, cond_true, List.getElem?_cons_zero, aj, au, r1.drew.cell, e32]
    refine ⟨by omega, by omega, ?_, x2⟩
    obtain ⟨n, rfl⟩ : ∃ n : Nat, a = (n : Int) := ⟨a.toNat, by have := hr.1; omega⟩
    rw [yL (by omega), yL (by omega), uS]
    refine decide_eq_decide.2 ?_
    rw [true_and, <- Int.natCast_ediv]
  · simp only [hr, decide_false, cond_false]
    exact ⟨(decide_eq_false fun h => h.1).symm, x2⟩
theorem BD (a : Int) (w : World) : jd a w fun r w' => r = decide (pX a) ∧ Ext w w' := by
  apply Hg
  refine mF (rV _ _) ?_
  rintro _ w1 ⟨rfl, hw⟩
  subst hw
  by_cases hr : eU a
  · simp only [hr, decide_true, Bool.not_true, cond_false]
    refine aK fun b w2 r2 e2 z2 f2 => ?_
    apply JO
    have blk : ∀ i : Nat, i < 3 -> ∃ (base bits : Int) (k c : Nat), r2 = r2 ∧ base = (c : Int) ∧ bits = 32 - (k : Int) ∧ k <= 32 ∧ ([.int .i64 0, .int .i64 8, .int .i64 2130706432, .int .i64 8, .int .i64 3758096384, .int .i64 3] : List Value)[i * 2]? = some (.int .i64 base) ∧
        ([.int .i64 0, .int .i64 8, .int .i64 2130706432, .int .i64 8, .int .i64 3758096384, .int .i64 3] : List Value)[i * 2 + 1]? = some (.int .i64 bits) ∧ (k, c) = (if i = 0 then (24, 0) else if i = 1 then (24, 2130706432) else (29, 3758096384)) := by
      intro i hi
      have : i = 0 ∨ i = 1 ∨ i = 2 := by omega
      rcases this with rfl | rfl | rfl
      · exact ⟨0, 8, 24, 0, rfl, rfl, rfl, by omega, rfl, rfl, rfl⟩
      · exact ⟨2130706432, 8, 24, 2130706432, rfl, rfl, rfl, by omega, rfl, rfl, rfl⟩
      · exact ⟨3758096384, 3, 29, 3758096384, rfl, rfl, rfl, by omega, rfl, rfl, rfl⟩
    refine bn (fun st W => ∃ i : Nat, i <= 3 ∧ st.1 = (i : Int) ∧ Ext w2 W ∧ (0 < i -> a / 16777216 ≠ 0) ∧ (1 < i -> a / 16777216 ≠ 127) ∧ (2 < i -> a / 536870912 ≠ 7)) (fun st _ => 3 - st.1.toNat) ⟨0, by omega, rfl, Ext.refl _, by omega, by omega, by omega⟩ ?_
    rintro ⟨x, ⟨⟩⟩ W ⟨i, hi, rfl, hx, h1, h2, h3⟩ next hnext
    by_cases hlt : i < 3
    · have hlt' : ((i : Int) < ((3 : Nat) : Int)) := by omega
      obtain ⟨base, bits, k, c, _, hb, hk, hk2, g1, g2, g3⟩ := blk i hlt
      simp only [sx, hlt', decide_true, Int.toNat_natCast, (r2.ext hx).cell, g1, g2]
      refine ⟨by omega, by trivial, rD rfl rfl fun d w3 r3 e3 z3 f3 => ?_⟩
      simp only [sx, r3.cell]
      refine xU (Vt base bits a k c hb hk hk2 w3) ?_
      rintro _ w4 ⟨rfl, f4⟩
      have hi3 : i = 0 ∨ i = 1 ∨ i = 2 := by omega
      have q16 : (2 : Nat) ^ 24 = 16777216 := by decide
      have q29 : (2 : Nat) ^ 29 = 536870912 := by decide
      have fin : (eU a ∧ a / (2 ^ k : Nat) = ((c / 2 ^ k : Nat) : Int)) ↔ (if i = 0 then a / 16777216 = 0 else if i = 1 then a / 16777216 = 127 else a / 536870912 = 7) := by
        rcases hi3 with rfl | rfl | rfl
        · simp only [if_true, Prod.mk.injEq] at g3 ⊢
          rw [g3.1, g3.2, q16]; simp [hr]
        · simp only [if_true, Prod.mk.injEq, Nat.one_ne_zero, if_false] at g3 ⊢
          rw [g3.1, g3.2, q16]; simp [hr]
        · simp only [show ¬ ((2 : Nat) = 0) by omega, show ¬ ((2 : Nat) = 1) by omega, if_false, Prod.mk.injEq] at g3 ⊢
          rw [g3.1, g3.2, q29]; simp [hr]
      by_cases hh : (eU a ∧ a / (2 ^ k : Nat) = ((c / 2 ^ k : Nat) : Int))
      · simp only [decide_eq_true hh, cond_true]
        refine ⟨?_, (f2.trans hx).trans (f3.trans f4)⟩
        have hh' := fin.1 hh
        have hr1 := hr.1
        have hr2 := hr.2
        symm
        rw [Bool.not_true]
        refine decide_eq_false fun hp => ?_
        obtain ⟨p1, p2, p3⟩ := hp
        rcases hi3 with rfl | rfl | rfl
        · simp only [if_true] at hh'; omega
        · simp only [Nat.one_ne_zero, if_false, if_true] at hh'; omega
        · simp only [show ¬ ((2 : Nat) = 0) by omega, show ¬ ((2 : Nat) = 1) by omega, if_false] at hh'; omega
      · simp only [decide_eq_false hh, cond_false]
        have hh' := fun h => hh (fin.2 h)
        rw [wrap_i64 (by omega) (by omega)]
        refine hnext _ _ ⟨i + 1, by omega, by simp, hx.trans (f3.trans f4), ?_, ?_, ?_⟩ (by simp only; omega)
        · intro _
          rcases hi3 with rfl | rfl | rfl
          · simpa using hh'
          · exact h1 (by omega)
          · exact h1 (by omega)
        · intro _
          rcases hi3 with rfl | rfl | rfl
          · omega
          · simpa using hh'
          · exact h2 (by omega)
        · intro _
          rcases hi3 with rfl | rfl | rfl
          · omega
          · omega
          · simpa using hh'
    · have hlt' : ¬ ((i : Int) < ((3 : Nat) : Int)) := by omega
      simp only [hlt', decide_false, cond_false]
      have : i = 3 := by omega
      subst this
      refine ⟨?_, f2.trans hx⟩
      have p1 := h1 (by omega)
      have p2 := h2 (by omega)
      have p3 := h3 (by omega)
      have hr1 := hr.1
      have hr2 := hr.2
      rw [Bool.not_false]
      exact (decide_eq_true ⟨by omega, by omega, p2⟩).symm
  · simp only [hr, decide_false, Bool.not_false, cond_true]
    exact ⟨(decide_eq_false fun h => hr h.right).symm, Ext.refl _⟩
theorem Qh {w : World} (m : zS) {d : ah} (hd : d.len = m.data.length) : kE m.kind m.code m.rest d w fun r w' => r = m.check ∧ Ext w w' := by
  apply Fb
  refine aK fun a w1 r1 e1 z1 f1 => ?_
  intro J
  have hJ : ∀ b, b = (!decide m.fine) -> J b w1 := by
    rintro b rfl
    simp only [sx, J, r1.cell]
    by_cases hf : m.fine
    · by_cases hs : m.data.length <= 65527
      · have : ¬ ((d.len : Int) > 65527) := by omega
        simp only [hf, this, decide_true, decide_false, Bool.not_true, cond_false]
        exact ⟨by simp [zS.check, hf, hs], f1⟩
      · have : ((d.len : Int) > 65527) := by omega
        simp only [hf, this, decide_true, Bool.not_true, cond_false, cond_true]
        exact ⟨by simp [zS.check, hf, hs], f1⟩
    · simp only [hf, decide_false, Bool.not_false, cond_true]
      exact ⟨by simp [zS.check, hf], f1⟩
  simp -zeta only [sx, r1.cell]
  refine cu (gW _ _ _) ?_
  rintro _ w2 ⟨rfl, hw⟩
  subst hw
  by_cases c1 : aU m.kind 1
  · simp -zeta only [c1, decide_true, Bool.not_true, cond_false, List.getElem?_cons_zero, List.getElem?_cons_succ, aj, au, r1.cell]
    refine cu (gW _ _ _) ?_
    rintro _ w2 ⟨rfl, hw⟩
    subst hw
    by_cases c2 : aU m.code 1
    · simp -zeta only [c2, decide_true, Bool.not_true, cond_false, List.getElem?_cons_zero, List.getElem?_cons_succ, aj, au, r1.cell]
      refine cu (gW _ _ _) ?_
      rintro _ w2 ⟨rfl, hw⟩
      subst hw
      exact hJ _ (congrArg (!·) (decide_eq_decide.2 ⟨fun h => ⟨c1, c2, h⟩, fun h => h.2.2⟩))
    · simp -zeta only [c2, decide_false, Bool.not_false, cond_true]
      exact hJ _ (by rw [decide_eq_false fun h : m.fine => c2 h.2.1]; rfl)
  · simp -zeta only [c1, decide_false, Bool.not_false, cond_true]
    exact hJ _ (by rw [decide_eq_false fun h : m.fine => c1 h.1]; rfl)
def UQ (m : zS) (w w' : World) (r : ah) (e : Int) : Prop :=
  e = m.check ∧ (m.check = 0 -> aS w' r m.bytes) ∧ Ext w w' ∧ (∀ b, ah.at r b -> w.heap.size <= b) ∧ (∀ a, r.a = some a -> ah.at r a.block)
theorem Qx {w : World} (m : zS) {d : ah} (hd : aS w d m.data) : kR m.kind m.code m.rest d w fun r e w' => UQ m w w' r e := by
  apply EZ
  refine aK fun a w1 r1 e1 z1 f1 => ?_
  simp only [sx, r1.cell]
  refine EP (Qh m (d := d) hd.1) ?_
  rintro _ w2 ⟨rfl, f2⟩
  have r2 := r1.ext f2
  by_cases hc : m.check = 0
  · obtain ⟨⟨g1, g2, g3⟩, hs⟩ := AA hc
    have g1' := mP g1
    have g2' := mP g2
    simp only [hc, show ((0 : Int) != 0) = false from rfl, cond_false, List.getElem?_cons_zero, List.getElem?_cons_succ, aj, au, r2.cell]
    refine aK fun b w3 r3 e3 z3 f3 => ?_
    have rr := r2.ext f3
    simp only [List.getElem?_cons_zero, List.getElem?_cons_succ, aj, au, rr.cell]
    obtain ⟨t, ht⟩ : ∃ t : Nat, m.kind = (t : Int) := ⟨m.kind.toNat, by omega⟩
    obtain ⟨u, hu⟩ : ∃ u : Nat, m.code = (u : Int) := ⟨m.code.toNat, by omega⟩
    rw [ht, hu, Fq, Fq] at r3
    have b3 : aS w3 ⟨some ⟨b, 0, none⟩, 4, 4⟩ (dK 1 m.kind.toNat ++ dK 1 m.code.toNat ++ dK 2 0) := by
      refine aS.aV ?_
      have := aS.row (l := dK 1 m.kind.toNat ++ dK 1 m.code.toNat ++ dK 2 0) (w := w3) (b := b) (by simpa [bytesV, dK, ht, hu] using r3)
      simpa [aP] using this
    refine lV (xB b3 (by simp [aP]) m.rest 4) ?_
    rintro t4 w4 ⟨b4, f4, n4⟩
    have e4 : jU (dK 1 m.kind.toNat ++ dK 1 m.code.toNat ++ dK 2 0) m.rest 4 = dK 1 m.kind.toNat ++ dK 1 m.code.toNat ++ dK 2 0 ++ dK 4 m.rest.toNat := by
      unfold jU; rw [if_pos g3]; rfl
    rw [e4] at b4
    have r4 := rr.ext f4
    simp only [List.getElem?_cons_zero, List.getElem?_cons_succ, aj, aA, r4.cell]
    have x4 : Ext w w4 := ((f1.trans f2).trans f3).trans f4
    refine bC b4 (hd.ext x4) (by simp [aP]; omega) fun t5 w5 b5 f5 n5 _ => ?_
    have z3' := ((f1.trans f2).trans f3).size
    have z4 := x4.size
    have x5 : Ext w w5 := x4.new f5 fun y hy h => by have := n4 y h; omega
    have b5 : Buf w5 t5 (bytesV (m.body 0)) := b5
    have l5 := Cb m 0
    refine aK fun c w6 r6 e6 z6 f6 => ?_
    refine F5 (U5 (uQ r6 (aS.aV (b5.ext f6))) (by simp) (by intro q hq; simp only [List.mem_singleton] at hq; subst hq; simp only; omega)) ?_
    rintro _ w7 ⟨rfl, f7⟩
    rw [yE]
    have e8 : 65535 - fold (tot (m.body 0)) = m.sum := rfl
    rw [e8]
    have hsl : m.sum < 65536 := by unfold zS.sum; omega
    have x7 := x5.trans (f6.trans f7)
    have z7 := x7.size
    refine FY (QH (aS.aV ((b5.ext f6).ext f7)) (by omega) 2 (m.sum : Int) 2) ?_
    rintro s9 e9 w9 ⟨hr9, f9, n9⟩
    obtain ⟨rfl, b9⟩ := Oh ⟨⟨by omega, by omega⟩, by omega, by simp; omega⟩ (by omega) (by omega) hr9
    refine ⟨hc.symm, fun _ => ?_, x7.trans f9, fun y hy => by have := n9 y hy; omega, fun a ha => b9.at_eq ha⟩
    have eb : (m.body 0).take 2 ++ dK 2 m.sum ++ (m.body 0).drop 4 = m.bytes := by
      unfold zS.bytes
      rw [Oz, Oz]
      simp [dK]
    have := aS.aV b9
    rw [show (2 : Int).toNat = 2 from rfl, Int.toNat_natCast, show (2 + 2 : Nat) = 4 from rfl, eb] at this
    exact this
  · have hc' : (m.check != 0) = true := by simpa using hc
    simp only [hc', cond_true]
    exact ⟨rfl, fun h => absurd h hc, f1.trans f2, (by rintro b ⟨o, h⟩; cases h), (by rintro a h; cases h)⟩
theorem SC {w : World} (p : dL) {o d : ah} (hd : aS w d p.data) : kT p.tos p.id p.off p.ttl p.proto p.src p.dst p.df p.mf o d w fun r w' => r = BO p ∧ Ext w w' := by
  apply EI
  refine aK fun a w1 r1 e1 z1 f1 => ?_
  simp only [sx, r1.cell]
  have dl := hd.1
  unfold BO
  by_cases hp : p.proto = 1
  · have : (p.proto != 1) = false := by simp [hp]
    simp only [this, cond_false, if_pos hp]
    cases hdd : p.data with
    | nil =>
      have : ¬ ((d.len : Int) > 0) := by rw [dl, hdd]; simp
      simp only [this, decide_false, cond_false]
      exact ⟨by trivial, f1⟩
    | cons x xs =>
      have h0 : 0 < p.data.length := by rw [hdd]; simp
      have : ((d.len : Int) > 0) := by omega
      simp only [this, decide_true, cond_true]
      refine byte_at (i := 0) (hd.ext f1) h0 fun a0 hc0 _ => ?_
      have ex : p.data[0] = x := by simp [hdd]
      rw [ex] at hc0
      have := x.toNat_lt
      simp only [aj, au, hc0]
      rw [wrap_i64 (by omega) (by omega)]
      refine EC (Tm _ _) ?_
      rintro _ w2 ⟨rfl, f2⟩
      exact ⟨by trivial, f1.trans f2⟩
  · have : (p.proto != 1) = true := by simpa using hp
    simp only [this, cond_true, if_neg hp]
    exact ⟨by trivial, f1⟩
def VR (q : dL) (t i o l p s d : Int) (df mf : Bool) (op da : ah) : Prop :=
  t = q.tos ∧ i = q.id ∧ o = q.off ∧ l = q.ttl ∧ p = q.proto ∧ s = q.src ∧ d = q.dst ∧ df = q.df ∧ mf = q.mf ∧ op.len = q.opts.length ∧ da.len = q.data.length
theorem QM {w : World} {s : ah} {l : List UInt8} (hs : aS w s l) (hl : l.length <= 2 ^ 40) :
    nR s w fun t i o l' p s' d df mf op da f w' => f = yx l ∧ (yx l = true -> VR (field l) t i o l' p s' d df mf op da) ∧ Ext w w' := by
  apply H6
  refine aK fun a w1 r1 e1 z1 f1 => ?_
  refine Jm (Qi (hs.ext f1) hl) ?_
  rintro _ _ _ _ _ _ _ _ _ op da _ w2 ⟨rfl, ⟨rfl, rfl, rfl, rfl, rfl, rfl, rfl, rfl, rfl, hop, hda⟩, f2⟩
  refine rD rfl rfl fun b w3 r3 e3 z3 f3 => ?_
  have x3 : Ext w1 w3 := f2.trans f3
  have fin : ∀ W, Ext w1 W -> yx l = false -> gJ [(Value.int .i64 0), (Value.int .i64 0), (Value.int .i64 0), (Value.int .i64 0), (Value.int .i64 0), (Value.int .i64 0), (Value.int .i64 0), (Value.bool false), (Value.bool false), (Value.slice none 0 0), (Value.slice none 0 0)] W ⟨a, 0, none⟩ 0 fun w28 =>
      vO (.int .i64) (w28.cell? ⟨a, 0, none⟩) fun y1 => vO (.int .i64) (w28.cell? ⟨a, 1, none⟩) fun y2 => vO (.int .i64) (w28.cell? ⟨a, 2, none⟩) fun y3 => vO (.int .i64) (w28.cell? ⟨a, 3, none⟩) fun y4 => vO (.int .i64) (w28.cell? ⟨a, 4, none⟩) fun y5 =>
      vO (.int .i64) (w28.cell? ⟨a, 5, none⟩) fun y6 => vO (.int .i64) (w28.cell? ⟨a, 6, none⟩) fun y7 => vO .bool (w28.cell? ⟨a, 7, none⟩) fun y8 => vO .bool (w28.cell? ⟨a, 8, none⟩) fun y9 => vO .slice (w28.cell? ⟨a, 9, none⟩) fun y10 => vO .slice (w28.cell? ⟨a, 10, none⟩) fun y11 =>
      (false = yx l ∧ (yx l = true -> VR (field l) y1 y2 y3 y4 y5 y6 y7 y8 y9 y10 y11) ∧ Ext w w28) := by
    intro W hx he
    refine aT (r1.ext hx) rfl rfl fun w28 r28 f28 _ => ?_
    simp only [List.getElem?_cons_zero, List.getElem?_cons_succ, aj, aA, au, aJ, r28.cell]
    exact ⟨he.symm, (by intro h; rw [he] at h; cases h), (f1.trans hx).new (f28 (· = a) rfl) fun y hy e => by omega⟩
  by_cases c1 : fA l true = 0
  · have rd : V4.read l true = field l := by unfold V4.read; rw [if_pos c1]
    rw [rd] at hop hda r3
    simp only [sx, c1, show ((0 : Int) != 0) = false from rfl, r3.cell]
    by_cases c2 : (field l).off <= 0
    · have c2' : ¬ ((field l).off > 0) := by omega
      simp only [c2', decide_false, cond_false]
      refine oz (BD _ _) ?_
      rintro _ w4 ⟨rfl, f4⟩
      by_cases c3 : pX (field l).src
      · simp only [c3, decide_true, Bool.not_true, cond_false, List.getElem?_cons_zero, List.getElem?_cons_succ, aj, au, (r3.ext f4).cell]
        refine oz (BD _ _) ?_
        rintro _ w5 ⟨rfl, f5⟩
        have x5 : Ext w3 w5.drew := (f4.trans f5).trans (Ext.drew _)
        by_cases c4 : pX (field l).dst
        · simp only [c4, decide_true, Bool.not_true, cond_false, List.getElem?_cons_zero, List.getElem?_cons_succ, aj, aA, au, aJ, (r3.ext x5).cell]
          refine ED (SC (field l) (o := op) (d := da) ((hda.ext f3).ext x5)) ?_
          rintro _ w6 ⟨rfl, f6⟩
          simp only [true_and, List.getElem?_cons_zero, List.getElem?_cons_succ, (r3.ext (x5.trans f6)).cell]
          have x6 := x3.trans (x5.trans f6)
          refine aT (r1.ext x6) rfl rfl fun w7 r7 f7 _ => ?_
          simp only [List.getElem?_cons_zero, List.getElem?_cons_succ, aj, aA, au, aJ, r7.cell]
          refine ⟨by simp [yx, c1, c2, c3, c4], fun _ => ⟨rfl, rfl, rfl, rfl, rfl, rfl, rfl, rfl, rfl, hop.1, hda.1⟩, (f1.trans x6).new (f7 (· = a) rfl) fun y hy e => by omega⟩
        · simp only [c4, decide_false, Bool.not_false, cond_true]
          exact fin w5 (x3.trans (f4.trans f5)) (Bool.eq_false_iff.2 fun h => c4 (o7.1 h).2.2.2.1)
      · simp only [c3, decide_false, Bool.not_false, cond_true]
        exact fin w4 (x3.trans f4) (Bool.eq_false_iff.2 fun h => c3 (o7.1 h).2.2.1)
    · have c2' : ((field l).off > 0) := by omega
      simp only [c2', decide_true, cond_true]
      exact fin w3 x3 (Bool.eq_false_iff.2 fun h => c2 (o7.1 h).2.1)
  · have c1' : (fA l true != 0) = true := by simpa using c1
    simp only [sx, c1']
    exact fin w3 x3 (Bool.eq_false_iff.2 fun h => c1 (o7.1 h).1)
theorem Q_ {w : World} {s o d : ah} {l : List UInt8} (hs : aS w s l) (hl : l.length <= 2 ^ 40) (p : dL) (ho : o.len = p.opts.length) (hd : d.len = p.data.length) (h1 : p.size <= l.length) :
    kU s p.tos p.id p.off p.ttl p.proto p.src p.dst p.df p.mf o d w fun r w' => Buf w' r (bytesV (l.take (min p.size 548))) ∧ Ext w w' := by
  apply Et
  refine aK fun a w1 r1 e1 z1 f1 => ?_
  have hz : p.size = 20 + p.opts.length + p.data.length := rfl
  simp only [sx, r1.cell]
  refine xk (Iu _ _ _ _ _ _ _ _ _ _ _ (show o.len <= 2 ^ 60 by omega) (show d.len <= 2 ^ 60 by omega) _) ?_
  rintro _ w2 ⟨rfl, f2⟩
  have e : (if (548 : Int) < 20 + (({ a := o.a, len := o.len, cap := o.cap } : ah).len : Int) + (({ a := d.a, len := d.len, cap := d.cap } : ah).len : Int) then (548 : Int) else 20 + (({ a := o.a, len := o.len, cap := o.cap } : ah).len : Int) + (({ a := d.a, len := d.len, cap := d.cap } : ah).len : Int)) = ((min p.size 548 : Nat) : Int) := by
    simp only [ho, hd, hz]
    split <;> omega
  rw [e]
  refine fK ((hs.ext f1).ext f2) (by omega) (by omega) (by omega) fun s3 hs3 _ => ?_
  rw [show Int.toNat 0 = 0 from rfl, List.drop_zero, Int.toNat_natCast] at hs3
  refine aI (iZ hs3 (by simp; omega)) ?_
  rintro r w4 ⟨b4, _, f4, _⟩
  exact ⟨b4, (f1.trans f2).trans f4⟩
theorem Mc {w : World} {from_ kind code rest e : Int} {l : List UInt8} (h : pU from_ kind code rest l = e) (he : e ≠ 0) : LQ w (Cm from_ kind code rest l) 0 0 0 0 0 0 0 false false ⟨none, 0, 0⟩ ⟨none, 0, 0⟩ := by
  unfold Cm
  rw [h, if_neg he]
  exact rF _
theorem Uc {w : World} {s : ah} {l : List UInt8} (hs : aS w s l) (hl : l.length <= 2 ^ 40) (from_ kind code rest : Int) :
    nG from_ kind code rest s w fun t i o l' p s' d df mf op da e w' => e = pU from_ kind code rest l ∧ LQ w' (Cm from_ kind code rest l) t i o l' p s' d df mf op da ∧ Ext w w' := by
  apply IQ
  refine aK fun a w1 r1 e1 z1 f1 => ?_
  have fin : ∀ (e : Int) W, Ext w1 W -> pU from_ kind code rest l = e -> e ≠ 0 -> gJ [(Value.int .i64 0), (Value.int .i64 0), (Value.int .i64 0), (Value.int .i64 0), (Value.int .i64 0), (Value.int .i64 0), (Value.int .i64 0), (Value.bool false), (Value.bool false), (Value.slice none 0 0), (Value.slice none 0 0)] W ⟨a, 0, none⟩ 0 fun w28 =>
      vO (.int .i64) (w28.cell? ⟨a, 0, none⟩) fun y1 => vO (.int .i64) (w28.cell? ⟨a, 1, none⟩) fun y2 => vO (.int .i64) (w28.cell? ⟨a, 2, none⟩) fun y3 => vO (.int .i64) (w28.cell? ⟨a, 3, none⟩) fun y4 => vO (.int .i64) (w28.cell? ⟨a, 4, none⟩) fun y5 =>
      vO (.int .i64) (w28.cell? ⟨a, 5, none⟩) fun y6 => vO (.int .i64) (w28.cell? ⟨a, 6, none⟩) fun y7 => vO .bool (w28.cell? ⟨a, 7, none⟩) fun y8 => vO .bool (w28.cell? ⟨a, 8, none⟩) fun y9 => vO .slice (w28.cell? ⟨a, 9, none⟩) fun y10 => vO .slice (w28.cell? ⟨a, 10, none⟩) fun y11 =>
      (e = pU from_ kind code rest l ∧ LQ w28 (Cm from_ kind code rest l) y1 y2 y3 y4 y5 y6 y7 y8 y9 y10 y11 ∧ Ext w w28) := by
    intro e W hx he hne
    refine aT (r1.ext hx) rfl rfl fun w28 r28 f28 _ => ?_
    simp only [List.getElem?_cons_zero, List.getElem?_cons_succ, aj, aA, au, aJ, r28.cell]
    exact ⟨he.symm, Mc he hne, (f1.trans hx).new (f28 (· = a) rfl) fun y hy e => by omega⟩
  refine G_ (QM (hs.ext f1) hl) ?_
  rintro t i o l' p s' d df mf op da _ w2 ⟨rfl, hp, f2⟩
  refine rD rfl rfl fun b w3 r3 e3 z3 f3 => ?_
  have x3 := f2.trans f3
  by_cases hm : yx l = true
  · obtain ⟨rfl, rfl, rfl, rfl, rfl, rfl, rfl, rfl, rfl, hop, hda⟩ := hp hm
    have hq := o7.1 hm
    have hz := DX (zN hq.1)
    simp only [sx, hm, Bool.not_true, r3.cell]
    refine Es (Q_ ((hs.ext f1).ext x3) hl (field l) (o := op) (d := da) hop hda hz.2) ?_
    rintro r4 w4 ⟨b4, f4⟩
    refine rD rfl rfl fun c w5 r5 e5 z5 f5 => ?_
    simp only [sx, r5.cell]
    refine Ep (Qx (kS kind code rest l) (d := r4) (aS.aV (b4.ext f5))) ?_
    rintro r6 e6 w6 ⟨rfl, b6, f6, n6, n6'⟩
    have y6 := f4.trans (f5.trans f6)
    have x6 := x3.trans y6
    by_cases hc : (kS kind code rest l).check = 0
    · simp only [hc, show ((0 : Int) != 0) = false from rfl, cond_false, List.getElem?_cons_zero, List.getElem?_cons_succ, aj, au, (r3.ext y6).cell]
      refine rD rfl rfl fun g w7 r7 e7 z7 f7 => ?_
      simp only [sx, r7.cell]
      have b6 := b6 hc
      have hbl := b6.1
      have hml : (kS kind code rest l).bytes.length = 8 + (kS kind code rest l).data.length := Cb _ _
      have hdl := (AA hc).2
      refine uw (DR (iU from_ kind code rest l) (o := ⟨none, 0, 0⟩) (d := r6) rfl hbl (by simp [iU]) (by show (kS kind code rest l).bytes.length <= 2 ^ 46; omega)) ?_
      rintro _ w8 ⟨rfl, f8⟩
      have x8 := x6.trans (f7.trans f8)
      by_cases hk : (iU from_ kind code rest l).check = 0
      · simp only [hk, show ((0 : Int) != 0) = false from rfl, cond_false, List.getElem?_cons_zero, List.getElem?_cons_succ, aj, aA, au, aJ, (r7.ext f8).cell]
        refine aT (r1.ext x8) rfl rfl fun w9 r9 f9 _ => ?_
        simp only [List.getElem?_cons_zero, List.getElem?_cons_succ, aj, aA, au, aJ, r9.cell]
        have me : pU from_ kind code rest l = 0 := by unfold pU; rw [if_pos hm, if_pos hc, if_pos hk]
        refine ⟨me.symm, ?_, (f1.trans x8).new (f9 (· = a) rfl) fun y hy e => by omega⟩
        unfold Cm
        rw [if_pos me]
        refine ⟨rfl, rfl, rfl, rfl, rfl, rfl, rfl, rfl, rfl, aS.nil, ?_⟩
        have z5 : w1.heap.size <= w5.heap.size := (x3.trans (f4.trans f5)).size
        exact aS.fr ((b6.ext f7).ext f8) (f9 (· = a) rfl) fun x hx _ e => by have := n6 _ (n6' x hx); omega
      · have hk' : ((iU from_ kind code rest l).check != 0) = true := by simpa using hk
        simp only [hk', cond_true]
        exact fin 1 w8 x8 (by unfold pU; rw [if_pos hm, if_pos hc, if_neg hk]) (by omega)
    · have hc' : ((kS kind code rest l).check != 0) = true := by simpa using hc
      simp only [hc', cond_true]
      exact fin 1 w6 x6 (by unfold pU; rw [if_pos hm, if_neg hc]) (by omega)
  · have hm' : yx l = false := by simpa using hm
    simp only [sx, hm', Bool.not_false]
    exact fin 11 w3 x3 (by unfold pU; rw [if_neg hm]) (by omega)
theorem Bz (a b : Int) (ha : 0 <= a ∧ a < 2 ^ 62) (hb : 0 < b ∧ b <= 2 ^ 40) (w : World) : iw a b w fun r w' => r = a % b ∧ w' = w := by
  apply Ii
  refine ⟨by omega, by omega, ?_, rfl⟩
  rw [Int.tmod_eq_emod_of_nonneg ha.1]
  have h1 := Int.emod_nonneg a (b := b) (by omega)
  have h2 := Int.emod_lt_of_pos a hb.1
  rw [wrap_i64 (by omega) (by omega), Int.tmod_eq_emod_of_nonneg (by omega), Int.add_emod_right, Int.emod_emod]
theorem MV {w : World} {src dst proto z : Int} (h1 : 0 <= src ∧ src < 2 ^ 62) (h2 : 0 <= dst ∧ dst < 2 ^ 62) (h3 : 0 <= proto ∧ proto < 2 ^ 62) (h4 : 0 <= z ∧ z < 2 ^ 62) :
    jk src dst proto z w fun r w' => (∃ l : List UInt8, aS w' r l ∧ l.length <= 100) ∧ Ext w w' := by
  apply AL
  have put_len : ∀ l n k, (jU l n k).length <= l.length + 4 := fun l n k => by
    unfold jU
    split
    · rename_i h
      have := h.1.2
      simp [aP]; omega
    · omega
  have em : ∀ (a b : Int), 0 < b -> b <= 2 ^ 40 -> a % b < 2 ^ 62 := fun a b hb hb2 => by
    have := Int.emod_lt_of_pos a hb; omega
  refine nZ (Bz _ _ h1 (by omega) w) ?_
  rintro _ w0 ⟨rfl, hw⟩
  subst hw
  refine bD (n_ aS.nil (by simp) _ 4 (em _ _ (by omega) (by omega))) ?_
  rintro t1 w1 ⟨b1, f1, n1⟩
  refine nZ (Bz _ _ h2 (by omega) w1) ?_
  rintro _ w2 ⟨rfl, hw⟩
  subst hw
  have l1 := put_len [] (src % 4294967296) 4
  simp only [List.length_nil] at l1
  refine bD (n_ (aS.aV b1) (by omega) _ 4 (em _ _ (by omega) (by omega))) ?_
  rintro t2 w2 ⟨b2, f2, n2⟩
  have l2 := put_len (jU [] (src % 4294967296) 4) (dst % 4294967296) 4
  generalize jU (jU [] (src % 4294967296) 4) (dst % 4294967296) 4 = q2 at b2 l2
  refine aK fun c w3 r3 e3 z3 f3 => ?_
  have b3 : aS w3 ⟨some ⟨c, 0, none⟩, 1, 1⟩ [0] := aS.aV (aS.row (l := [0]) (by simpa [bytesV] using r3))
  refine bC (b2.ext f3) b3 (by simp; omega) fun t4 w4 b4 f4 n4 _ => ?_
  have z1' := f1.size
  have x4 : Ext w0 w4 := (f1.trans (f2.trans f3)).new f4 fun y hy h => by have := n2 y h; omega
  refine nZ (Bz _ _ h3 (by omega) w4) ?_
  rintro _ w5 ⟨rfl, hw⟩
  subst hw
  refine bD (n_ (aS.aV b4) (by simp; omega) _ 1 (em _ _ (by omega) (by omega))) ?_
  rintro t5 w5 ⟨b5, f5, n5⟩
  have l5 := put_len (q2 ++ [0]) (proto % 256) 1
  generalize jU (q2 ++ [0]) (proto % 256) 1 = q5 at b5 l5
  simp only [List.length_append, List.length_singleton] at l5
  refine nZ (Bz _ _ h4 (by omega) w5) ?_
  rintro _ w6 ⟨rfl, hw⟩
  subst hw
  refine bD (n_ (aS.aV b5) (by omega) _ 2 (em _ _ (by omega) (by omega))) ?_
  rintro t6 w6 ⟨b6, f6, n6⟩
  have l6 := put_len q5 (z % 65536) 2
  exact ⟨⟨_, aS.aV b6, by omega⟩, (x4.trans f5).trans f6⟩
theorem Ou {w : World} {d : ah} {l : List UInt8} (hd : aS w d l) (hl : l.length <= 65527) {src dst : Nat} (h1 : src < 65536) (h2 : dst < 65536) (b : Bool) {s : Nat} (hs : s < 65536) :
    gG (src : Int) (dst : Int) b d (s : Int) w fun r w' => aS w' r (dK 2 src ++ dK 2 dst ++ dK 2 (8 + l.length) ++ dK 2 s ++ l) ∧ Ext w w' := by
  apply CS
  have dl := hd.1
  have put : ∀ {W : World} {t : ah} {l : List UInt8} (n k : Nat), aS W t l -> l.length <= 100 -> aU (n : Int) (k : Int) -> n < 2 ^ 62 -> aY t (n : Int) (k : Int) W fun r w' => Buf w' r (bytesV (l ++ dK k n)) ∧ Ext W w' ∧ (∀ b, ah.at r b -> W.heap.size <= b) := by
    intro W t l n k h1 h2 h3 h4
    refine bD (n_ h1 (by omega) (n : Int) (k : Int) (by omega)) ?_
    rintro r w' ⟨h5, h6, h7⟩
    refine ⟨?_, h6, h7⟩
    simpa [jU, h3] using h5
  have fit : ∀ n : Nat, n < 65536 -> aU (n : Int) ((2 : Nat) : Int) := fun n h => ⟨⟨by omega, by omega⟩, by omega, by simp; omega⟩
  refine aK fun a w1 r1 e1 z1 f1 => ?_
  have r1d := r1.drew
  simp only [sx, r1d.cell]
  refine bD (put src 2 aS.nil (by simp) (fit _ h1) (by omega)) ?_
  rintro t2 w2 ⟨b2, f2, n2⟩
  simp only [true_and, List.getElem?_cons_zero, List.getElem?_cons_succ, (r1d.ext f2).cell]
  refine bD (put dst 2 (aS.aV b2) (by simp [aP]) (fit _ h2) (by omega)) ?_
  rintro t3 w3 ⟨b3, f3, n3⟩
  have r3 := (r1d.ext f2).ext f3
  simp only [List.getElem?_cons_zero, List.getElem?_cons_succ, aj, aA, r3.cell]
  rw [wrap_i64 (by omega) (by omega), show (8 + (d.len : Int)) = ((8 + l.length : Nat) : Int) by omega]
  refine bD (put (8 + l.length) 2 (aS.aV b3) (by simp [aP]) (fit _ (by omega)) (by omega)) ?_
  rintro t4 w4 ⟨b4, f4, n4⟩
  refine bD (put s 2 (aS.aV b4) (by simp [aP]) (fit _ hs) (by omega)) ?_
  rintro t5 w5 ⟨b5, f5, n5⟩
  have r5 := (r3.ext f4).ext f5
  simp only [List.getElem?_cons_zero, List.getElem?_cons_succ, aj, aA, r5.cell]
  have x4 : Ext w w4 := (f1.trans (Ext.drew _)).trans ((f2.trans f3).trans f4)
  have z4 := x4.size
  refine bC b5 (hd.ext (x4.trans f5)) (by simp [aP]; omega) fun t6 w6 b6 f6 n6 _ => ?_
  exact ⟨aS.aV (by simpa using b6), (x4.trans f5).new f6 fun y hy h => by have := n5 y h; omega⟩
theorem Vx {w : World} {d : ah} {l : List UInt8} (hd : aS w d l) (hl : l.length <= 65527) {a b src dst : Nat} (ha : a < 2 ^ 40) (hb : b < 2 ^ 40) (h1 : src < 65536) (h2 : dst < 65536) :
    jG (a : Int) (b : Int) (src : Int) (dst : Int) false d w fun r e w' => e = 0 ∧ (∃ m : List UInt8, aS w' r m ∧ m.length = 8 + l.length) ∧ Ext w w' := by
  apply BH
  have dl := hd.1
  refine aK fun c w1 r1 e1 z1 f1 => ?_
  simp only [sx, r1.cell]
  have fit : ∀ n : Nat, n < 65536 -> aU (n : Int) 2 := fun n h => ⟨⟨by omega, by omega⟩, by omega, by simp; omega⟩
  have hchk : jE (src : Int) (dst : Int) false ⟨d.a, d.len, d.cap⟩ w1 fun r w' => r = 0 ∧ Ext w1 w' := by
    apply CQ
    refine aK fun c w2 r2 e2 z2 f2 => ?_
    simp only [sx, r2.cell]
    refine dF (jH _ _ _) ?_
    rintro r w3 ⟨hr, hw⟩
    rw [decide_eq_true (fit _ h1)] at hr
    subst hr hw
    simp only [Bool.not_true, cond_false, List.getElem?_cons_zero, List.getElem?_cons_succ, aj, au, r2.cell]
    refine dF (jH _ _ _) ?_
    rintro r w3 ⟨hr, hw⟩
    rw [decide_eq_true (fit _ h2)] at hr
    subst hr hw
    have : ¬ ((d.len : Int) > 65527) := by omega
    simp only [Bool.not_true, this, decide_false, cond_false, List.getElem?_cons_zero, List.getElem?_cons_succ, aj, aA, r2.cell]
    exact ⟨by trivial, f2⟩
  refine D8 hchk ?_
  rintro _ w2 ⟨rfl, f2⟩
  have r2 := r1.ext f2
  simp only [show ((0 : Int) != 0) = false from rfl, cond_false, List.getElem?_cons_zero, List.getElem?_cons_succ, aj, aA, au, aJ, r2.cell]
  refine ug (Ou (s := 0) ((hd.ext f1).ext f2) hl h1 h2 false (by omega)) ?_
  rintro t3 w3 ⟨b3, f3⟩
  have l3 := b3.1
  simp only [List.length_append, aP] at l3
  simp only [cond_false, List.getElem?_cons_zero, List.getElem?_cons_succ, aj, aJ, (r2.ext f3).cell]
  refine AZ (MV (by omega) (by omega) (by omega) (by omega)) ?_
  rintro t4 w4 ⟨⟨q4, b4, l4⟩, f4⟩
  refine aK fun g w5 r5 e5 z5 f5 => ?_
  have hp : Parts w5 ⟨some ⟨g, 0, none⟩, 2, 2⟩ [(t4, q4), (t3, dK 2 src ++ dK 2 dst ++ dK 2 (8 + l.length) ++ dK 2 0 ++ l)] := by
    refine ⟨rfl, fun i p hi => ?_⟩
    match i with
    | 0 =>
      simp at hi
      subst hi
      exact ⟨g, 0, rfl, by rw [r5.cell]; rfl, b4.ext f5⟩
    | 1 =>
      simp at hi
      subst hi
      exact ⟨g, 0, rfl, by rw [r5.cell]; rfl, by simpa using (b3.ext f4).ext f5⟩
    | i + 2 => simp at hi
  refine zU (Q5 hp (by simp) (by
    intro q hq
    simp only [List.mem_cons, List.not_mem_nil, or_false] at hq
    rcases hq with rfl | rfl
    · simp only; omega
    · simp only [List.length_append, aP]; omega)) ?_
  rintro _ w6 ⟨rfl, f6⟩
  generalize hsv : 65535 - fold (lg [(t4, q4), (t3, dK 2 src ++ dK 2 dst ++ dK 2 (8 + l.length) ++ dK 2 0 ++ l)]) = sv
  have hsv2 : sv < 65536 := by omega
  have y6 := f3.trans (f4.trans (f5.trans f6))
  have x6 := (f1.trans f2).trans y6
  have fin : ∀ v : Nat, v < 65536 -> gG (src : Int) (dst : Int) false ⟨d.a, d.len, d.cap⟩ (v : Int) w6 fun r w' => True ∧ (∃ m : List UInt8, aS w' r m ∧ m.length = 8 + l.length) ∧ Ext w w' := by
    intro v hv
    refine ug (Ou (d := d) (hd.ext x6) hl h1 h2 false hv) ?_
    rintro t7 w7 ⟨b7, f7⟩
    exact ⟨trivial, ⟨_, b7, by simp [aP]; omega⟩, x6.trans f7⟩
  simp only [List.getElem?_cons_zero, List.getElem?_cons_succ, aj, aA, au, aJ, (r2.ext y6).cell]
  by_cases h0 : sv = 0
  · simp only [h0, show (((0 : Nat) : Int) == 0) = true from rfl, cond_true]
    have h9 := fin 65535 (by omega)
    rw [show ((65535 : Nat) : Int) = 65535 from rfl] at h9
    exact h9
  · have : ((sv : Int) == 0) = false := by rw [uS]; exact decide_eq_false (by omega)
    simp only [this, cond_false]
    exact fin sv hsv2
theorem JB {w : World} {d : ah} {l : List UInt8} (hd : aS w d l) (hl : l.length <= 60000) {a b src dst ttl : Nat} (ha : a < 4294967296) (hb : b < 4294967296) (h1 : src < 65536) (h2 : dst < 65536) (h3 : ttl < 256) :
    dw (a : Int) (b : Int) (src : Int) (dst : Int) (ttl : Int) d w fun r w' => (∃ p : dL, p.check = 0 ∧ aS w' r p.bytes ∧ p.off = 0 ∧ p.proto = 17 ∧ p.src = (a : Int) ∧ p.dst = (b : Int) ∧ p.opts = [] ∧ p.data.length = 8 + l.length ∧ p.ttl = (ttl : Int)) ∧ yX w r ∧ Ext w w' := by
  apply xW
  refine Ee (Vx hd (by omega) (by omega) (by omega) h1 h2) ?_
  rintro r _ w1 ⟨rfl, ⟨m, hm, lm⟩, f1⟩
  refine DY (Ql (⟨0, 0, 0, ttl, 17, a, b, false, false, [], m⟩ : dL) (o := ⟨none, 0, 0⟩) (d := r) aS.nil hm (by simp) (by show m.length <= 2 ^ 46; omega)) ?_
  rintro t e w2 ⟨he, _, hb2, f2, n2⟩
  have hc : (⟨0, 0, 0, ttl, 17, a, b, false, false, [], m⟩ : dL).check = 0 := by
    have fine : (⟨0, 0, 0, ttl, 17, a, b, false, false, [], m⟩ : dL).fine :=
      ⟨⟨⟨⟨by omega, by omega⟩, by simp, by simp⟩, ⟨⟨by omega, by omega⟩, by simp, by simp; omega⟩, ⟨⟨by omega, by omega⟩, by simp, by simp⟩, ⟨⟨by omega, by omega⟩, by simp, by simp⟩⟩,
        ⟨⟨by simp, by simp; omega⟩, ⟨by simp, by simp; omega⟩⟩, ⟨by simp, by simp, by simp, by simp⟩, by simp, by simp⟩
    have sh : (⟨0, 0, 0, ttl, 17, a, b, false, false, [], m⟩ : dL).short := ⟨by simp; omega, by simp; omega⟩
    unfold dL.check
    rw [if_pos fine, if_pos sh]
  have hnew : yX w t := fun y hy => by
    have s1 := f1.size
    obtain ⟨_, ⟨g, _⟩ | ⟨bb, pad, g, _⟩⟩ := hb2 hc
    · rw [hy] at g; cases g
    · rw [hy] at g; cases g
      have := n2 bb ⟨0, hy⟩
      show w.heap.size <= bb
      omega
  exact ⟨⟨_, hc, aS.aV (hb2 hc), rfl, rfl, rfl, rfl, rfl, lm, rfl⟩, hnew, f1.trans f2⟩
end Go.Proofs
end
section
namespace Go.Proofs
open Gp Gp.V4
set_option maxRecDepth 100000
set_option maxHeartbeats 1000000
def bi (l : List UInt8) : List Int := l.map fun b => (b.toNat : Int)
theorem oJ (l : List UInt8) : bytesV l = (bi l).map fun n => Value.int .u8 n := by unfold bytesV bi; rw [List.map_map]; rfl
theorem TL {l : List UInt8} (h : l.length = 16) : ∃ x0 x1 x2 x3 x4 x5 x6 x7 x8 x9 x10 x11 x12 x13 x14 x15 : Int, bi l = [x0, x1, x2, x3, x4, x5, x6, x7, x8, x9, x10, x11, x12, x13, x14, x15] ∧ bytesV l = [.int .u8 x0, .int .u8 x1, .int .u8 x2, .int .u8 x3, .int .u8 x4, .int .u8 x5, .int .u8 x6, .int .u8 x7, .int .u8 x8, .int .u8 x9, .int .u8 x10, .int .u8 x11, .int .u8 x12, .int .u8 x13, .int .u8 x14, .int .u8 x15] := by
  obtain ⟨b0, l0, rfl⟩ := List.exists_cons_of_length_eq_add_one h
  have h0 := Nat.succ.inj h
  obtain ⟨b1, l1, rfl⟩ := List.exists_cons_of_length_eq_add_one h0
  have h1 := Nat.succ.inj h0
  obtain ⟨b2, l2, rfl⟩ := List.exists_cons_of_length_eq_add_one h1
  have h2 := Nat.succ.inj h1
  obtain ⟨b3, l3, rfl⟩ := List.exists_cons_of_length_eq_add_one h2
  have h3 := Nat.succ.inj h2
  obtain ⟨b4, l4, rfl⟩ := List.exists_cons_of_length_eq_add_one h3
  have h4 := Nat.succ.inj h3
  obtain ⟨b5, l5, rfl⟩ := List.exists_cons_of_length_eq_add_one h4
  have h5 := Nat.succ.inj h4
  obtain ⟨b6, l6, rfl⟩ := List.exists_cons_of_length_eq_add_one h5
  have h6 := Nat.succ.inj h5
  obtain ⟨b7, l7, rfl⟩ := List.exists_cons_of_length_eq_add_one h6
  have h7 := Nat.succ.inj h6
  obtain ⟨b8, l8, rfl⟩ := List.exists_cons_of_length_eq_add_one h7
  have h8 := Nat.succ.inj h7
  obtain ⟨b9, l9, rfl⟩ := List.exists_cons_of_length_eq_add_one h8
  have h9 := Nat.succ.inj h8
  obtain ⟨b10, l10, rfl⟩ := List.exists_cons_of_length_eq_add_one h9
  have h10 := Nat.succ.inj h9
  obtain ⟨b11, l11, rfl⟩ := List.exists_cons_of_length_eq_add_one h10
  have h11 := Nat.succ.inj h10
  obtain ⟨b12, l12, rfl⟩ := List.exists_cons_of_length_eq_add_one h11
  have h12 := Nat.succ.inj h11
  obtain ⟨b13, l13, rfl⟩ := List.exists_cons_of_length_eq_add_one h12
  have h13 := Nat.succ.inj h12
  obtain ⟨b14, l14, rfl⟩ := List.exists_cons_of_length_eq_add_one h13
  have h14 := Nat.succ.inj h13
  obtain ⟨b15, l15, rfl⟩ := List.exists_cons_of_length_eq_add_one h14
  have h15 := Nat.succ.inj h14
  obtain rfl := List.length_eq_zero_iff.1 h15
  exact ⟨b0.toNat, b1.toNat, b2.toNat, b3.toNat, b4.toNat, b5.toNat, b6.toNat, b7.toNat, b8.toNat, b9.toNat, b10.toNat, b11.toNat, b12.toNat, b13.toNat, b14.toNat, b15.toNat, rfl, rfl⟩
theorem nM {b o : Nat} {K : ah -> Prop} (h : K ⟨some ⟨b, o, none⟩, 16, 16⟩) : lZ ⟨b, o, none⟩ 16 1 0 (16 : Int) K := by
  refine ⟨by omega, by omega, by omega, ?_⟩
  have e : (if 16 = (0 : Int).toNat then (⟨b, o, none⟩ : Addr) else (⟨b, o, none⟩ : Addr).add ((0 : Int).toNat * 1)) = ⟨b, o, none⟩ := by
    rw [if_neg (by decide)]; rfl
  rw [e]
  exact h
theorem zD (q : dZ) {p0 p1 p2 p3 p4 p5 p6 p7 p8 p9 p10 p11 p12 p13 p14 p15 p16 p17 p18 p19 p20 p21 p22 p23 p24 p25 p26 p27 p28 p29 p30 p31 : Int} {s : ah} (hs : s.len = q.data.length) (w : World) : jS q.tr q.fl q.nx q.hp p0 p1 p2 p3 p4 p5 p6 p7 p8 p9 p10 p11 p12 p13 p14 p15 p16 p17 p18 p19 p20 p21 p22 p23 p24 p25 p26 p27 p28 p29 p30 p31 s w fun r w' => r = q.check ∧ Ext w w' := by
  apply KT
  refine aK fun a w1 r1 e1 z1 f1 => ?_
  intro J4
  have h4t : ∀ W, Ext w W -> ¬ q.fine -> J4 true W := by
    intro W hx hn
    simp only [J4, cond_true]
    refine ⟨?_, hx⟩
    unfold dZ.check; rw [if_neg hn]
  have h4f : ∀ W, Ext w1 W -> (aU q.tr 1 ∧ aU q.nx 1 ∧ aU q.hp 1) -> J4 false W := by
    intro W hx hfit
    have r := r1.ext hx
    simp -zeta only [J4, cond_false]
    intro J7
    have h7t : ¬ q.fine -> J7 true := by
      intro hn
      simp only [J7, cond_true]
      refine ⟨?_, f1.trans hx⟩
      unfold dZ.check; rw [if_neg hn]
    have h7f : 0 <= q.fl ∧ q.fl < 1048576 -> J7 false := by
      intro hfl
      have hfine : q.fine := ⟨hfit, hfl⟩
      simp only [sx, J7, r.cell]
      by_cases hl : q.data.length <= 65535
      · rw [decide_eq_false (by omega), cond_false]
        refine ⟨?_, f1.trans hx⟩
        unfold dZ.check; rw [if_pos hfine, if_pos hl]
      · rw [decide_eq_true (by omega), cond_true]
        refine ⟨?_, f1.trans hx⟩
        unfold dZ.check; rw [if_pos hfine, if_neg hl]
    clear_value J7
    simp only [sx, r.cell]
    by_cases c1 : q.fl < 0
    · rw [decide_eq_true c1, cond_true]; exact h7t fun hf => by have := hf.2.1; omega
    · rw [decide_eq_false c1, cond_false]
      by_cases c2 : q.fl >= 1048576
      · rw [decide_eq_true c2]; exact h7t fun hf => by have := hf.2.2; omega
      · rw [decide_eq_false c2]; exact h7f (by omega)
  clear_value J4
  simp only [sx, r1.cell]
  refine cu (gW q.tr 1 w1) ?_
  rintro _ _ ⟨rfl, rfl⟩
  by_cases g1 : aU q.tr 1
  · rw [decide_eq_true g1, Bool.not_true, cond_false]
    simp only [List.getElem?_cons_zero, List.getElem?_cons_succ, aj, au, r1.cell]
    refine cu (gW q.nx 1 _) ?_
    rintro _ _ ⟨rfl, rfl⟩
    by_cases g2 : aU q.nx 1
    · rw [decide_eq_true g2, Bool.not_true, cond_false]
      simp only [List.getElem?_cons_zero, List.getElem?_cons_succ, aj, au, r1.cell]
      refine cu (gW q.hp 1 _) ?_
      rintro _ _ ⟨rfl, rfl⟩
      by_cases g3 : aU q.hp 1
      · rw [decide_eq_true g3, Bool.not_true]; exact h4f _ (Ext.refl _) ⟨g1, g2, g3⟩
      · rw [decide_eq_false g3, Bool.not_false]; exact h4t _ f1 fun hf => g3 hf.1.2.2
    · rw [decide_eq_false g2, Bool.not_false, cond_true]; exact h4t _ f1 fun hf => g2 hf.1.2.1
  · rw [decide_eq_false g1, Bool.not_false, cond_true]; exact h4t _ f1 fun hf => g1 hf.1.1
structure vF (w : World) (q : dZ) (t0 t1 t2 t3 : Int) (ps qs : List Int) (s : ah) : Prop where
  n : t0 = q.tr ∧ t1 = q.fl ∧ t2 = q.nx ∧ t3 = q.hp
  src : ps = bi q.src
  dst : qs = bi q.dst
  data : aS w s q.data
theorem vF.ext {w w' : World} {q : dZ} {t0 t1 t2 t3 : Int} {ps qs : List Int} {s : ah} (h : vF w q t0 t1 t2 t3 ps qs s) (hx : Ext w w') : vF w' q t0 t1 t2 t3 ps qs s := ⟨h.n, h.src, h.dst, h.data.ext hx⟩
theorem uV {w : World} {s : ah} {vs : List Value} {k : Nat} (h : Buf w s vs) (hk : ∀ b, ah.at s b -> k <= b) (x : Addr) (hx : s.a = some x) : k <= x.block := by
  obtain ⟨_, ⟨h2, _⟩ | ⟨b, pad, h2, _⟩⟩ := h
  · rw [hx] at h2; cases h2
  · rw [hx] at h2; cases h2
    exact hk b ⟨0, hx⟩
theorem Oo {w : World} {p0 p1 p2 p3 p4 p5 p6 p7 p8 p9 p10 p11 p12 p13 p14 p15 q0 q1 q2 q3 q4 q5 q6 q7 q8 q9 q10 q11 q12 q13 q14 q15 hop : Int} {s : ah} {l src dst : List UInt8} (hs : aS w s l) (hl : l.length <= 2 ^ 46) (hp : [p0, p1, p2, p3, p4, p5, p6, p7, p8, p9, p10, p11, p12, p13, p14, p15] = bi src) (hq : [q0, q1, q2, q3, q4, q5, q6, q7, q8, q9, q10, q11, q12, q13, q14, q15] = bi dst) :
    jX p0 p1 p2 p3 p4 p5 p6 p7 p8 p9 p10 p11 p12 p13 p14 p15 q0 q1 q2 q3 q4 q5 q6 q7 q8 q9 q10 q11 q12 q13 q14 q15 hop s w fun t0 t1 t2 t3 r0 r1 r2 r3 r4 r5 r6 r7 r8 r9 r10 r11 r12 r13 r14 r15 r16 r17 r18 r19 r20 r21 r22 r23 r24 r25 r26 r27 r28 r29 r30 r31 s' e w' => e = (⟨0, 0, 4, hop, src, dst, l⟩ : dZ).check ∧ (e = 0 -> vF w' ⟨0, 0, 4, hop, src, dst, l⟩ t0 t1 t2 t3 [r0, r1, r2, r3, r4, r5, r6, r7, r8, r9, r10, r11, r12, r13, r14, r15] [r16, r17, r18, r19, r20, r21, r22, r23, r24, r25, r26, r27, r28, r29, r30, r31] s' ∧ yX w s') ∧ Ext w w' := by
  apply Jh
  refine aK fun a w1 r1 e1 z1 f1 => aK fun b w2 r2 e2 z2 f2 => aK fun c w3 r3 e3 z3 f3 => ?_
  have ra := (r1.ext f2).ext f3
  have rb := r2.ext f3
  simp only [sx, ra.cell, rb.cell]
  refine rD rfl rfl fun d w4 r4 e4 z4 f4 => ?_
  have x4 := (f1.trans f2).trans (f3.trans f4)
  refine aI (iZ (hs.ext x4) hl) ?_
  rintro r w5 ⟨b5, _, f5, n5⟩
  refine bM (r4.ext f5) rfl (by simp) fun w6 r6 f6 z6 => ?_
  simp only [List.set_cons_zero, List.set_cons_succ] at r6
  have f6d := f6 (· = d) rfl
  have hz4 := f4.size
  have hz3 := f3.size
  have hz2 := f2.size
  have hz1 := f1.size
  have hz5 := f5.size
  have x6 : Ext w w6 := (x4.trans f5).new f6d fun y hy e => by omega
  have b6 := b5.fr f6d fun c hc e => by have := n5 c hc; omega
  simp only [sx, r6.cell]
  refine tV (zD ⟨0, 0, 4, hop, src, dst, l⟩ (aS.aV b6).1 w6) ?_
  rintro _ w7 ⟨rfl, f7⟩
  have r3' := ((((r3.ext f4).ext f5).fr f6d (by omega)).ext f7)
  have x7 := x6.trans f7
  by_cases hc : (⟨0, 0, 4, hop, src, dst, l⟩ : dZ).check = 0
  · rw [hc]
    simp only [show ((0 : Int) != 0) = false from rfl, cond_false, List.getElem?_cons_zero, List.getElem?_cons_succ, aj, aA, au, (r6.ext f7).cell]
    refine aT r3' rfl rfl fun w8 r8 f8 z8 => ?_
    have f8c := f8 (· = c) rfl
    simp only [List.getElem?_cons_zero, List.getElem?_cons_succ, aj, aA, au, r8.cell]
    refine ⟨by trivial, fun _ => ⟨⟨⟨rfl, rfl, rfl, rfl⟩, hp, hq, (aS.aV ((b6.ext f7).fr f8c fun y hy e => by have := n5 y hy; omega))⟩, uV b5 fun y hy => by have := n5 y hy; omega⟩, x7.new f8c fun y hy e => by omega⟩
  · have hc' : ((⟨0, 0, 4, hop, src, dst, l⟩ : dZ).check != 0) = true := by simpa using hc
    rw [hc', cond_true]
    refine aT r3' rfl rfl fun w8 r8 f8 z8 => ?_
    have f8c := f8 (· = c) rfl
    simp only [List.getElem?_cons_zero, List.getElem?_cons_succ, aj, aA, au, r8.cell]
    exact ⟨by trivial, fun h0 => absurd h0 hc, x7.new f8c fun y hy e => by omega⟩
theorem rU {w : World} {b o : Nat} {L A C : List Value} {l : List UInt8} (hr : Row w b L) (hL : L = A ++ (bytesV l ++ C)) (ho : A.length = o) {n : Nat} (hn : n = l.length) : aS w ⟨some ⟨b, o, none⟩, n, n⟩ l := by
  subst hn
  refine ⟨rfl, ⟨by rw [bQ], fun j hj => ?_⟩, Nat.le_refl _⟩
  rw [fB, hr.cell, hL, <- ho, List.getElem?_append_right (by omega), Nat.add_sub_cancel_left, List.getElem?_append_left hj]
theorem Ui {n : Nat} (hn : n <= 2 ^ 46) (w : World) : dA ⟨none, 0, 0⟩ (n : Int) w fun r w' => Buf w' r (bytesV []) ∧ Ext w w' ∧ ∀ b, ah.at r b -> w.heap.size <= b := by
  apply qw
  rw [decide_eq_false (by omega), cond_false]
  have e0 : IntKind.i64.wrap (((0 : Nat) : Int) - ((0 : Nat) : Int)) = 0 := rfl
  simp -zeta only [e0]
  rw [show ((n : Int) - 0) = (n : Int) by omega, wrap_i64 (by omega) (by omega)]
  intro J
  by_cases hz : (n : Int) > 0
  · rw [decide_eq_true hz, cond_true]
    refine ⟨by omega, by omega, by simp, ?_⟩
    show Gw 5 1 1 [.int .u8 0] (⟨none, 0, 0⟩ : ah) (n : Int) w _
    refine Ej (old := []) (by show 0 < 0 + n; omega) (by show (0 + n) * 1 <= _; omega) (by show 0 + n <= _; omega) rfl fun c w1 hc r1 f1 z1 => ?_
    have hc : 0 + n <= c := hc
    refine ⟨by omega, by omega, by simp, ?_⟩
    have hsub : kX (some (⟨w.heap.size, 0, none⟩ : Addr)) c (0 : Int).toNat 1 = some ⟨w.heap.size, 0, none⟩ := by
      unfold kX
      split <;> simp [Addr.add]
    show J ⟨kX (some (⟨w.heap.size, 0, none⟩ : Addr)) c (0 : Int).toNat 1, 0, c - 0⟩ w1
    rw [hsub]
    refine ⟨⟨rfl, .inr ⟨w.heap.size, aH [.int .u8 0] n ++ aH [.int .u8 0] (c - (0 + n)), rfl, ?_, by simpa [bytesV] using r1⟩⟩, f1, fun b ⟨o, hb⟩ => by cases hb; exact Nat.le_refl _⟩
    simp only [List.length_append, jq, List.length_cons, List.length_nil, bytesV, List.map_nil]
    omega
  · rw [decide_eq_false hz, cond_false]
    exact ⟨Buf.nil, Ext.refl _, fun b ⟨o, hb⟩ => by cases hb⟩
def uI (ps : List (ah × List UInt8)) : List UInt8 := ps.flatMap (·.2)
theorem Uf {ps : List (ah × List UInt8)} {n : Nat} (h : ∀ p ∈ ps, p.2.length <= n) : (uI ps).length <= ps.length * n := by
  induction ps with
  | nil => simp [uI]
  | cons p ps ih =>
    have h1 := h p (by simp)
    have h2 := ih fun q hq => h q (by simp [hq])
    unfold uI at h2 ⊢
    rw [List.flatMap_cons, List.length_append, List.length_cons, Nat.add_mul]; omega
theorem FM {ps : List (ah × List UInt8)} {i : Nat} {p : ah × List UInt8} (h : ps[i]? = some p) : uI (ps.take (i + 1)) = uI (ps.take i) ++ p.2 := by
  unfold uI
  rw [List.take_add_one, h, List.flatMap_append]; simp
theorem Ob {w : World} {s : ah} {ps : List (ah × List UInt8)} (hs : Parts w s ps) {i : Nat} {p : ah × List UInt8} (hp : ps[i]? = some p) {K : Addr -> Prop} (hK : ∀ a, w.cell? a = some (.slice p.1.a p.1.len p.1.cap) -> aS w p.1 p.2 -> K a) : dN s 1 (i : Int) K := by
  have hlt := (List.getElem?_eq_some_iff.1 hp).1
  have hl := hs.1
  obtain ⟨b, o, ha, hc, hb⟩ := hs.2 i p hp
  refine ⟨_, ha, by omega, by omega, ?_⟩
  rw [Int.toNat_natCast, Nat.mul_one, fB]
  exact hK _ hc hb
theorem FI {w : World} {s : ah} {ps : List (ah × List UInt8)} (hs : Parts w s ps) (hn : ps.length <= 8) (hl : ∀ p ∈ ps, p.2.length <= 2 ^ 40) :
    bP s w fun r w' => Buf w' r (bytesV (uI ps)) ∧ Ext w w' ∧ ∀ b, ah.at r b -> w.heap.size <= b := by
  apply pV
  have hsl := hs.1
  have bnd : ∀ i, (uI (ps.take i)).length <= 2 ^ 43 := fun i => by
    have h1 := Uf (ps := ps.take i) (n := 2 ^ 40) fun p hp => hl p (List.mem_of_mem_take hp)
    have h2 : (ps.take i).length <= 8 := by simp; omega
    have h3 : (ps.take i).length * 2 ^ 40 <= 8 * 2 ^ 40 := Nat.mul_le_mul_right _ h2
    omega
  refine bn (fun st W => W = w ∧ ∃ i : Nat, i <= ps.length ∧ st.2.1 = (i : Int) ∧ st.1 = ((uI (ps.take i)).length : Int)) (fun st _ => ps.length - st.2.1.toNat) ⟨rfl, 0, by omega, rfl, by simp [uI]⟩ ?_
  rintro ⟨t, x, ⟨⟩⟩ W ⟨rfl, i, hi, hx, ht⟩ next hnext
  simp only at hx ht
  subst hx ht
  by_cases hlt : (i : Int) < (s.len : Int)
  · rw [decide_eq_true hlt, cond_true]
    have hp := List.getElem?_eq_getElem (show i < ps.length by omega)
    generalize ps[i]'(by omega) = p at hp
    refine Ob hs hp fun a hc hb => ?_
    simp only [sx, hc]
    have b1 := bnd (i + 1)
    have e1 := FM hp
    have hpl := hb.1
    rw [e1, List.length_append] at b1
    rw [wrap_i64 (n := ((uI (ps.take i)).length : Int) + (p.1.len : Int)) (by omega) (by omega), decide_eq_false (by omega), cond_false, wrap_i64 (by omega) (by omega)]
    exact hnext _ _ ⟨rfl, i + 1, by omega, by simp, by rw [e1, List.length_append]; simp only; omega⟩ (by simp only; omega)
  · rw [decide_eq_false hlt, cond_false]
    have b1 := bnd i
    refine qB (Ui (by omega) W) ?_
    rintro r w1 ⟨g1, g2, g3⟩
    refine bn (fun st W' => ∃ j : Nat, j <= ps.length ∧ st.2.1 = (j : Int) ∧ Buf W' st.1 (bytesV (uI (ps.take j))) ∧ (∀ b, ah.at st.1 b -> W.heap.size <= b) ∧ Ext W W') (fun st _ => ps.length - st.2.1.toNat) ⟨0, by omega, rfl, by simpa [uI] using g1, g3, g2⟩ ?_
    rintro ⟨u, x, ⟨⟩⟩ W' ⟨j, hj, hx, hb, hnw, hxx⟩ next' hnext'
    simp only at hx hb hnw
    subst hx
    by_cases hlj : (j : Int) < (s.len : Int)
    · rw [decide_eq_true hlj, cond_true]
      have hp := List.getElem?_eq_getElem (show j < ps.length by omega)
      generalize ps[j]'(by omega) = p at hp
      refine Ob (hs.fr hxx) hp fun a hc hbp => ?_
      simp only [sx, hc]
      have b2 := bnd (j + 1)
      have e1 := FM hp
      rw [e1, List.length_append] at b2
      refine bC hb hbp (by omega) fun s' w' h1 h2 h3 _ => ?_
      rw [wrap_i64 (by omega) (by omega)]
      have z1 := hxx.size
      refine hnext' _ _ ⟨j + 1, by omega, by simp, by rw [e1]; exact h1, fun b hb' => ?_, hxx.new h2 fun y hy hb' => by have := hnw y hb'; omega⟩ (by simp only; omega)
      rcases h3 b hb' with g | g
      · exact hnw b g
      · omega
    · rw [decide_eq_false hlj, cond_false]
      rw [List.take_of_length_le (by omega)] at hb
      exact ⟨hb, hxx, hnw⟩
theorem mO {l : List UInt8} {n k : Nat} (hk : 1 <= k ∧ k <= 4) (hn : n < 256 ^ k) : jU l (n : Int) (k : Int) = l ++ dK k n := by
  have : aU (n : Int) (k : Int) := ⟨⟨by omega, by omega⟩, by omega, by
    rw [Int.toNat_natCast]
    have : ((256 ^ k : Nat) : Int) = (256 : Int) ^ k := by simp
    omega⟩
  unfold jU
  rw [if_pos this]; rfl
theorem RG {q : dZ} (h : q.fine) : Bj .i64 (Bj .i64 1610612736 (yZ .i64 q.tr 20)) q.fl = (q.first : Int) ∧ q.first < 4294967296 := by
  obtain ⟨⟨f1, f2, f3⟩, f4, f5⟩ := h
  have g1 := mP f1
  obtain ⟨a, ha⟩ : ∃ a : Nat, q.tr = (a : Int) := ⟨q.tr.toNat, by omega⟩
  obtain ⟨b, hb⟩ : ∃ b : Nat, q.fl = (b : Int) := ⟨q.fl.toNat, by omega⟩
  have hfirst : q.first = 1610612736 + a * 1048576 + b := by unfold dZ.first; rw [ha, hb]; simp
  rw [hfirst, ha, hb]
  refine ⟨?_, by omega⟩
  rw [show (20 : Int) = ((20 : Nat) : Int) from rfl, Oi (by omega) (by omega), show (1610612736 : Int) = ((1610612736 : Nat) : Int) from rfl, xJ (by omega) (by omega)]
  have e1 : 1610612736 ||| a * 2 ^ 20 = 1610612736 + a * 2 ^ 20 := by
    rw [show (1610612736 : Nat) = 6 * 2 ^ 28 from rfl]
    exact sQ (by omega)
  rw [e1, xJ (by omega) (by omega)]
  have e2 : (1610612736 + a * 2 ^ 20) ||| b = 1610612736 + a * 2 ^ 20 + b := by
    rw [show (1610612736 : Nat) + a * 2 ^ 20 = (1536 + a) * 2 ^ 20 by omega]
    exact sQ (by omega)
  rw [e2]
theorem BF {n : Int} (h : aU n 1) : IntKind.u8.wrap n = ((UInt8.ofNat n.toNat).toNat : Int) := by
  have := mP h
  rw [IntKind.wrap_u8]; simp; omega
theorem P6 {w : World} {q : dZ} {t0 t1 t2 t3 p0 p1 p2 p3 p4 p5 p6 p7 p8 p9 p10 p11 p12 p13 p14 p15 p16 p17 p18 p19 p20 p21 p22 p23 p24 p25 p26 p27 p28 p29 p30 p31 : Int} {s : ah} (h : vF w q t0 t1 t2 t3 [p0, p1, p2, p3, p4, p5, p6, p7, p8, p9, p10, p11, p12, p13, p14, p15] [p16, p17, p18, p19, p20, p21, p22, p23, p24, p25, p26, p27, p28, p29, p30, p31] s) (hl : q.data.length <= 2 ^ 40) :
    oU t0 t1 t2 t3 p0 p1 p2 p3 p4 p5 p6 p7 p8 p9 p10 p11 p12 p13 p14 p15 p16 p17 p18 p19 p20 p21 p22 p23 p24 p25 p26 p27 p28 p29 p30 p31 s w fun r e w' => e = q.check ∧ (e = 0 -> aS w' r q.bytes ∧ yX w r) ∧ Ext w w' := by
  obtain ⟨⟨rfl, rfl, rfl, rfl⟩, hsrc, hdst, hdata⟩ := h
  apply LP
  refine aK fun a w1 r1 e1 z1 f1 => ?_
  simp only [sx, r1.cell]
  refine tV (zD q hdata.1 w1) ?_
  rintro _ w2 ⟨rfl, f2⟩
  by_cases hc : q.check = 0
  · rw [hc]
    obtain ⟨hf, hdl⟩ := fZ hc
    obtain ⟨o1, o2⟩ := RG hf
    obtain ⟨⟨g1, g2, g3⟩, _⟩ := id hf
    have hlen := hdata.1
    simp only [show ((0 : Int) != 0) = false from rfl, cond_false, List.getElem?_cons_zero, List.getElem?_cons_succ, aj, au, (r1.ext f2).cell, o1]
    refine ⟨by omega, ?_⟩
    refine lV (xB aS.nil (by simp) _ 4) ?_
    rintro t3 w3 ⟨b3, f3, n3⟩
    rw [show (4 : Int) = ((4 : Nat) : Int) from rfl, mO (by omega) (by omega), List.nil_append] at b3
    simp only [List.getElem?_cons_zero, List.getElem?_cons_succ, aj, aA, ((r1.ext f2).ext f3).cell]
    refine lV (xB (aS.aV b3) (by rw [aP]; omega) _ 2) ?_
    rintro t4 w4 ⟨b4, f4, n4⟩
    rw [hlen, show (2 : Int) = ((2 : Nat) : Int) from rfl, mO (by omega) (by omega)] at b4
    have x4 := (f2.trans f3).trans f4
    simp only [List.getElem?_cons_zero, List.getElem?_cons_succ, aj, au, (r1.ext x4).cell]
    refine aK fun c w5 r5 e5 z5 f5 => ?_
    have r5' : Row w5 c (bytesV [UInt8.ofNat q.nx.toNat, UInt8.ofNat q.hp.toNat]) := by
      rw [BF g2, BF g3] at r5; exact r5
    have hx5 : aS w5 ⟨some ⟨c, 0, none⟩, 2, 2⟩ [UInt8.ofNat q.nx.toNat, UInt8.ofNat q.hp.toNat] := .aV (aS.row (l := [UInt8.ofNat q.nx.toNat, UInt8.ofNat q.hp.toNat]) r5')
    refine bC (b4.ext f5) hx5 (by simp [aP]) fun t6 w6 b6 f6 n6 _ => ?_
    have z4 := x4.size
    have z3 := (f2.trans f3).size
    have z5' := f5.size
    have x6 : Ext w1 w6 := (x4.trans f5).new f6 fun y hy hb => by have := n4 y hb; omega
    have x6d := x6.trans (Ext.drew w6)
    have r6 := r1.ext x6d
    refine nM (nM ?_)
    simp only [List.getElem?_cons_zero, List.getElem?_cons_succ, aj, aA, r6.cell]
    refine aK fun g w7 r7 e7 z7 f7 => ?_
    have x7 := x6d.trans f7
    have hsl : bytesV q.src = [.int .u8 p0, .int .u8 p1, .int .u8 p2, .int .u8 p3, .int .u8 p4, .int .u8 p5, .int .u8 p6, .int .u8 p7, .int .u8 p8, .int .u8 p9, .int .u8 p10, .int .u8 p11, .int .u8 p12, .int .u8 p13, .int .u8 p14, .int .u8 p15] := by rw [oJ, <- hsrc]; rfl
    have hdl' : bytesV q.dst = [.int .u8 p16, .int .u8 p17, .int .u8 p18, .int .u8 p19, .int .u8 p20, .int .u8 p21, .int .u8 p22, .int .u8 p23, .int .u8 p24, .int .u8 p25, .int .u8 p26, .int .u8 p27, .int .u8 p28, .int .u8 p29, .int .u8 p30, .int .u8 p31] := by rw [oJ, <- hdst]; rfl
    have ls : q.src.length = 16 := by have := congrArg List.length hsrc; simp [bi] at this; exact this.symm
    have ld : q.dst.length = 16 := by have := congrArg List.length hdst; simp [bi] at this; exact this.symm
    have r17 := r1.ext x7
    have hs7 : aS w7 ⟨some ⟨a, 4, none⟩, 16, 16⟩ q.src := rU (o := 4) r17 (A := [.int .i64 q.tr, .int .i64 q.fl, .int .i64 q.nx, .int .i64 q.hp]) (C := [.int .u8 p16, .int .u8 p17, .int .u8 p18, .int .u8 p19, .int .u8 p20, .int .u8 p21, .int .u8 p22, .int .u8 p23, .int .u8 p24, .int .u8 p25, .int .u8 p26, .int .u8 p27, .int .u8 p28, .int .u8 p29, .int .u8 p30, .int .u8 p31] ++ [.slice s.a s.len s.cap]) (by rw [hsl]; rfl) rfl ls.symm
    have hd7 : aS w7 ⟨some ⟨a, 20, none⟩, 16, 16⟩ q.dst := rU (o := 20) r17 (A := [.int .i64 q.tr, .int .i64 q.fl, .int .i64 q.nx, .int .i64 q.hp] ++ [.int .u8 p0, .int .u8 p1, .int .u8 p2, .int .u8 p3, .int .u8 p4, .int .u8 p5, .int .u8 p6, .int .u8 p7, .int .u8 p8, .int .u8 p9, .int .u8 p10, .int .u8 p11, .int .u8 p12, .int .u8 p13, .int .u8 p14, .int .u8 p15]) (C := [.slice s.a s.len s.cap]) (by rw [hdl']; rfl) (by simp) ld.symm
    have hb7 : aS w7 t6 q.head := by
      have := aS.aV ((b6.ext (Ext.drew w6)).ext f7)
      exact this
    have hda7 : aS w7 s q.data := hdata.ext (f1.trans x7)
    have hparts : Parts w7 ⟨some ⟨g, 0, none⟩, 4, 4⟩ [(t6, q.head), (⟨some ⟨a, 4, none⟩, 16, 16⟩, q.src), (⟨some ⟨a, 20, none⟩, 16, 16⟩, q.dst), (s, q.data)] := by
      refine ⟨rfl, fun i p hp => ?_⟩
      refine ⟨g, 0, rfl, ?_⟩
      rw [Nat.zero_add, r7.cell]
      match i, hp with
      | 0, hp => cases hp; exact ⟨rfl, hb7⟩
      | 1, hp => cases hp; exact ⟨rfl, hs7⟩
      | 2, hp => cases hp; exact ⟨rfl, hd7⟩
      | 3, hp => cases hp; exact ⟨rfl, hda7⟩
      | n + 4, hp => simp at hp
    refine iW (FI hparts (by simp) fun p hp => ?_) ?_
    · have hh := rE q
      simp only [List.mem_cons, List.not_mem_nil, or_false] at hp
      rcases hp with rfl | rfl | rfl | rfl <;> simp only <;> omega
    · rintro r8 w8 ⟨b8, f8, n8⟩
      have zx7 := x7.size
      have zf1 := f1.size
      refine ⟨by trivial, fun _ => ?_, f1.trans (x7.trans f8)⟩
      have e8 : uI [(t6, q.head), (⟨some ⟨a, 4, none⟩, 16, 16⟩, q.src), (⟨some ⟨a, 20, none⟩, 16, 16⟩, q.dst), (s, q.data)] = q.bytes := by
        unfold uI dZ.bytes; simp
      rw [e8] at b8
      exact ⟨aS.aV b8, uV b8 fun y hy => by have := n8 y hy; omega⟩
  · have hc' : (q.check != 0) = true := by simpa using hc
    rw [hc', cond_true]
    exact ⟨rfl, fun h0 => absurd h0 hc, f1.trans f2⟩
theorem Og {w : World} {s : ah} {l : List UInt8} (h : aS w s l) {n : Nat} (hn : n <= l.length) : gB w s.a (n * 1) (bytesV (l.take n)) := by
  cases ha : s.a with
  | none =>
    have := h.empty ha
    subst this
    simp only [List.length_nil] at hn
    obtain rfl : n = 0 := by omega
    rfl
  | some a =>
    have hc := h.2.1
    rw [ha] at hc
    refine ⟨by rw [bQ, List.length_take]; omega, fun j hj => ?_⟩
    rw [bQ, List.length_take] at hj
    rw [hc.2 j (by rw [bQ]; omega)]
    unfold bytesV
    rw [List.getElem?_map, List.getElem?_map, List.getElem?_take, if_pos (by omega)]
theorem V7 (l : List UInt8) (n : Nat) : (l.take (min l.length (40 + n))).drop 40 = (l.drop 40).take n := by
  rw [List.drop_take]
  by_cases h : 40 + n <= l.length
  · rw [Nat.min_eq_right h]; congr 1; omega
  · rw [Nat.min_eq_left (by omega), List.take_of_length_le (by rw [List.length_drop]; omega), List.take_of_length_le (by rw [List.length_drop]; omega)]
theorem Rz {w : World} {s : ah} {l : List UInt8} (hs : aS w s l) (hl : l.length <= 2 ^ 40) (b : Bool) :
    qO s b w fun t0 t1 t2 t3 r0 r1 r2 r3 r4 r5 r6 r7 r8 r9 r10 r11 r12 r13 r14 r15 r16 r17 r18 r19 r20 r21 r22 r23 r24 r25 r26 r27 r28 r29 r30 r31 s' e w' => e = jD l b ∧ (e = 0 -> vF w' (wR l) t0 t1 t2 t3 [r0, r1, r2, r3, r4, r5, r6, r7, r8, r9, r10, r11, r12, r13, r14, r15] [r16, r17, r18, r19, r20, r21, r22, r23, r24, r25, r26, r27, r28, r29, r30, r31] s' ∧ yX w s') ∧ Ext w w' := by
  apply ML
  have hlen := hs.1
  refine aK fun a w1 r1 e1 z1 f1 => ?_
  by_cases h40 : (s.len : Int) < 40
  · have er : jD l b = 3 := by unfold jD; rw [if_pos (by omega)]
    rw [decide_eq_true h40, cond_true]
    refine aT r1 rfl rfl fun w5 r5 f5 _ => ?_
    simp only [sx, r5.cell]
    exact ⟨er.symm, fun h0 => by omega, f1.new (f5 (· = a) rfl) fun y hy e => by omega⟩
  rw [decide_eq_false h40, cond_false]
  have e40 : ¬ l.length < 40 := by omega
  refine qP (C_ (hs.ext f1) (by omega) 0 4) ?_
  rintro n0 e0 w2 ⟨hw, hg0⟩
  subst hw
  have hn0 := yg (at_ := 0) (k := 4) (by omega) (by omega) hg0
  refine qP (C_ (hs.ext f1) (by omega) 4 2) ?_
  rintro n4 e4 w3 ⟨hw, hg4⟩
  subst hw
  have hn4 := yg (at_ := 4) (k := 2) (by omega) (by omega) hg4
  subst hn0 hn4
  have l0 : num l 0 4 < 2 ^ 32 := Vq (by omega)
  have l4 : num l 4 2 < 65536 := oq l 4
  refine ⟨by omega, ?_⟩
  rw [show (28 : Int) = ((28 : Nat) : Int) from rfl, yL (by omega)]
  by_cases hv : num l 0 4 / 268435456 = 6
  · have : ((((num l 0 4 / 2 ^ 28 : Nat)) : Int) != 6) = false := by rw [bne_eq_false_iff_eq]; omega
    rw [this, cond_false]
    intro J
    have jt : jD l b = 3 -> J true := by
      intro er
      simp only [J, cond_true]
      refine aT r1 rfl rfl fun w5 r5 f5 _ => ?_
      simp only [sx, r5.cell]
      exact ⟨er.symm, fun h0 => by omega, f1.new (f5 (· = a) rfl) fun y hy e => by omega⟩
    have jf : jD l b = 0 -> J false := by
      intro er
      simp only [J, cond_false]
      refine ⟨by omega, ?_⟩
      have hs1 := (hs.ext f1).ext (Ext.drew w3)
      refine byte_at hs1 (i := 6) (by omega) fun a6 c6 k6 => ?_
      simp only [sx, c6]
      refine byte_at hs1 (i := 7) (by omega) fun a7 c7 k7 => ?_
      simp only [aj, au, c7]
      refine aK fun d w4 r4 e4 z4 f4 => ?_
      refine ⟨DU c7 f4, DU c6 f4, ?_⟩
      refine aT r4 rfl rfl fun w5 r5 f5 z5 => ?_
      have f5d := f5 (· = d) rfl
      have zd : w3.drew.heap.size = w3.heap.size := rfl
      have z1' := f1.size
      have x5 : Ext w3 w5 := ((Ext.drew w3).trans f4).new f5d fun y hy e => by omega
      have x5d := x5.trans (Ext.drew w5)
      have hs5 := (hs.ext f1).ext x5d
      have r5d := r5.drew
      simp only [sx]
      refine nM ?_
      refine fK hs5 (by omega) (by omega) (by omega) fun s6 hs6 _ => ?_
      rw [Int.toNat_natCast, hlen, List.take_of_length_le (Nat.le_refl _)] at hs6
      have hs6 : aS w5.drew s6 (l.drop 8) := hs6
      have ls6 := hs6.1
      rw [List.length_drop] at ls6
      have k16 : ((l.drop 8).take 16).length = 16 := by rw [List.length_take, List.length_drop]; omega
      obtain ⟨xa0, xa1, xa2, xa3, xa4, xa5, xa6, xa7, xa8, xa9, xa10, xa11, xa12, xa13, xa14, xa15, hb1, hv1⟩ := TL k16
      refine lD (m := 16) (vs := bytesV ((l.drop 8).take 16)) (by show min (_ : Nat) _ = _; omega) (Og hs6 (by rw [List.length_drop]; omega)) r5d (by rw [bQ, k16]; simp) (wY _) fun w6 r6 f6 => ?_
      rw [hv1] at r6
      have r6 : Row w6 d [.int .i64 (nN .i64 (lu .i64 (num l 0 4 : Int) 20) 255), .int .i64 (nN .i64 (num l 0 4 : Int) 1048575), .int .i64 (IntKind.i64.wrap (l[6].toNat : Int)), .int .i64 (IntKind.i64.wrap (l[7].toNat : Int)), .int .u8 xa0, .int .u8 xa1, .int .u8 xa2, .int .u8 xa3, .int .u8 xa4, .int .u8 xa5, .int .u8 xa6, .int .u8 xa7, .int .u8 xa8, .int .u8 xa9, .int .u8 xa10, .int .u8 xa11, .int .u8 xa12, .int .u8 xa13, .int .u8 xa14, .int .u8 xa15, .int .u8 0, .int .u8 0, .int .u8 0, .int .u8 0, .int .u8 0, .int .u8 0, .int .u8 0, .int .u8 0, .int .u8 0, .int .u8 0, .int .u8 0, .int .u8 0, .int .u8 0, .int .u8 0, .int .u8 0, .int .u8 0, .slice none 0 0] := r6
      have x6 : Ext w3 w6.drew := (x5d.new f6 fun y hy e => by omega).trans (Ext.drew w6)
      have zd6 : w6.drew.heap.size = w6.heap.size := rfl
      refine nM ?_
      refine fK ((hs.ext f1).ext x6) (by omega) (by omega) (by omega) fun s7 hs7 _ => ?_
      rw [Int.toNat_natCast, hlen, List.take_of_length_le (Nat.le_refl _)] at hs7
      have hs7 : aS w6.drew s7 (l.drop 24) := hs7
      have ls7 := hs7.1
      rw [List.length_drop] at ls7
      have q16 : ((l.drop 24).take 16).length = 16 := by rw [List.length_take, List.length_drop]; omega
      obtain ⟨ya0, ya1, ya2, ya3, ya4, ya5, ya6, ya7, ya8, ya9, ya10, ya11, ya12, ya13, ya14, ya15, hb2, hv2⟩ := TL q16
      refine lD (m := 16) (vs := bytesV ((l.drop 24).take 16)) (by show min (_ : Nat) _ = _; omega) (Og hs7 (by rw [List.length_drop]; omega)) r6.drew (by rw [bQ, q16]; simp) (wY _) fun w7 r7 f7 => ?_
      rw [hv2] at r7
      have r7 : Row w7 d [.int .i64 (nN .i64 (lu .i64 (num l 0 4 : Int) 20) 255), .int .i64 (nN .i64 (num l 0 4 : Int) 1048575), .int .i64 (IntKind.i64.wrap (l[6].toNat : Int)), .int .i64 (IntKind.i64.wrap (l[7].toNat : Int)), .int .u8 xa0, .int .u8 xa1, .int .u8 xa2, .int .u8 xa3, .int .u8 xa4, .int .u8 xa5, .int .u8 xa6, .int .u8 xa7, .int .u8 xa8, .int .u8 xa9, .int .u8 xa10, .int .u8 xa11, .int .u8 xa12, .int .u8 xa13, .int .u8 xa14, .int .u8 xa15, .int .u8 ya0, .int .u8 ya1, .int .u8 ya2, .int .u8 ya3, .int .u8 ya4, .int .u8 ya5, .int .u8 ya6, .int .u8 ya7, .int .u8 ya8, .int .u8 ya9, .int .u8 ya10, .int .u8 ya11, .int .u8 ya12, .int .u8 ya13, .int .u8 ya14, .int .u8 ya15, .slice none 0 0] := r7
      have x7 : Ext w3 w7 := x6.new f7 fun y hy e => by omega
      have ehi : (if (s.len : Int) < IntKind.i64.wrap (40 + (num l 4 2 : Int)) then (s.len : Int) else IntKind.i64.wrap (40 + (num l 4 2 : Int))) = ((min l.length (40 + num l 4 2) : Nat) : Int) := by
        rw [wrap_i64 (by omega) (by omega)]
        split <;> omega
      rw [ehi]
      refine fK ((hs.ext f1).ext x7) (by omega) (by omega) (by omega) fun s8 hs8 _ => ?_
      rw [Int.toNat_natCast, show Int.toNat 40 = 40 from rfl, V7] at hs8
      refine aI (iZ hs8 (by rw [List.length_take, List.length_drop]; omega)) ?_
      rintro r9 w9 ⟨b9, _, f9, n9⟩
      have r9r := r7.ext f9
      refine bM r9r rfl (by simp) fun w10 r10 f10 z10 => ?_
      simp only [List.set_cons_zero, List.set_cons_succ] at r10
      have f10d := f10 (· = d) rfl
      have z7 := x7.size
      have zf6 := f6.size
      have zf7 := f7.size
      have hz5 : w5.drew.heap.size = w5.heap.size := rfl
      have b10 := b9.fr f10d fun c hc e => by have := n9 c hc; omega
      have x10 : Ext w3 w10 := (x7.trans f9).new f10d fun y hy e => by omega
      simp only [List.getElem?_cons_zero, List.getElem?_cons_succ, aj, aA, au, r10.cell]
      refine aT (r1.ext x10) rfl rfl fun w11 r11 f11 z11 => ?_
      have f11a := f11 (· = a) rfl
      simp only [List.getElem?_cons_zero, List.getElem?_cons_succ, aj, aA, au, r11.cell]
      have zf9 := f9.size
      refine ⟨er.symm, fun _ => ⟨⟨⟨?_, ?_, ?_, ?_⟩, hb1.symm, hb2.symm, ?_⟩, uV b9 fun c hc => by have := n9 c hc; omega⟩, (f1.trans x10).new f11a fun y hy e => by omega⟩
      · rw [show (20 : Int) = ((20 : Nat) : Int) from rfl, yL (by omega), show (255 : Int) = ((2 ^ 8 - 1 : Nat) : Int) from rfl, uO (by omega) (by decide), vw]; rfl
      · rw [show (1048575 : Int) = ((2 ^ 20 - 1 : Nat) : Int) from rfl, uO (by omega) (by decide), vw]; rfl
      · have := l[6].toNat_lt
        rw [wrap_i64 (by omega) (by omega)]
        show _ = ((num l 6 1 : Nat) : Int)
        rw [G7 (by omega)]
      · have := l[7].toNat_lt
        rw [wrap_i64 (by omega) (by omega)]
        show _ = ((num l 7 1 : Nat) : Int)
        rw [G7 (by omega)]
      · exact aS.aV (b10.fr f11a fun c hc e => by have := n9 c hc; omega)
    clear_value J
    rw [wrap_i64 (by omega) (by omega)]
    by_cases hbig : ((num l 4 2 : Nat) : Int) > (s.len : Int) - 40
    · rw [decide_eq_true hbig, cond_true]
      cases b with
      | true => exact jf (by unfold jD; rw [if_neg e40, if_neg (by omega), if_neg (by simp)])
      | false => exact jt (by unfold jD; rw [if_neg e40, if_neg (by omega), if_pos ⟨rfl, by omega⟩])
    · rw [decide_eq_false hbig, cond_false]
      exact jf (by unfold jD; rw [if_neg e40, if_neg (by omega), if_neg (by omega)])
  · have er : jD l b = 4 := by unfold jD; rw [if_neg e40, if_pos hv]
    have : ((((num l 0 4 / 2 ^ 28 : Nat)) : Int) != 6) = true := by
      rw [bne_iff_ne]; omega
    rw [this, cond_true]
    refine aT r1 rfl rfl fun w5 r5 f5 _ => ?_
    simp only [sx, r5.cell]
    exact ⟨er.symm, fun h0 => by omega, f1.new (f5 (· = a) rfl) fun y hy e => by omega⟩
theorem Ul {n : Nat} (hn : n < 2 ^ 62) : Bv .i64 (n : Int) 7 = ((n / 8 * 8 : Nat) : Int) := by
  unfold Bv
  have h1 : (BitVec.ofInt (IntKind.bits .i64) (n : Int)).toNat = n := by rw [sU, BitVec.toNat_ofInt]; omega
  have h2 : (~~~(BitVec.ofInt (IntKind.bits .i64) 7)).toNat = (2 ^ 61 - 1) <<< 3 := by rw [sU]; rfl
  rw [BitVec.toNat_and, h1, h2]
  have e : n &&& ((2 ^ 61 - 1) <<< 3) = n / 8 * 8 := by
    rw [show n / 8 * 8 = (n >>> 3) <<< 3 by rw [Nat.shiftLeft_eq, Nat.shiftRight_eq_div_pow]]
    refine Nat.eq_of_testBit_eq fun i => ?_
    rw [Nat.testBit_and, Nat.testBit_shiftLeft, Nat.testBit_shiftLeft, Nat.testBit_two_pow_sub_one, Nat.testBit_shiftRight]
    by_cases h3 : i >= 3
    · rw [decide_eq_true h3, Bool.true_and, Bool.true_and, show 3 + (i - 3) = i by omega]
      by_cases h6 : i - 3 < 61
      · rw [decide_eq_true h6, Bool.and_true]
      · have : n.testBit i = false := Nat.testBit_lt_two_pow (Nat.lt_of_lt_of_le hn (Nat.pow_le_pow_right (by omega) (by omega)))
        rw [this]; rfl
    · rw [decide_eq_false h3]; simp
  rw [e, wrap_i64 (by omega) (by omega)]
theorem F9 {w : World} {s : ah} {l : List UInt8} {d : Nat} {L : List Value} (h : aS w s l) (hr : Row w d L) (hL : ∀ v ∈ L, ∀ n, v ≠ .int .u8 n) : ∀ a, s.a = some a -> 0 < l.length -> ¬ a.block = d := by
  rintro a ha hl rfl
  obtain ⟨a', ha', hc⟩ := h.at_ (List.getElem?_eq_getElem hl)
  rw [ha] at ha'; cases ha'
  obtain ⟨T, ht⟩ := hr
  have e : a.add 0 = a := by simp [Addr.add]
  rw [e] at hc
  unfold World.cell? at hc
  rw [ht] at hc
  simp only at hc
  split at hc
  · cases hc
  · rw [List.getElem?_toArray] at hc
    exact hL _ (List.mem_of_getElem? hc) _ rfl
structure Jw (w : World) (t : V4.Told) (ps : List Int) (k c r : Int) (s : ah) : Prop where
  peer : ps = bi t.peer
  n : k = t.kind ∧ c = t.code ∧ r = t.rest
  inner : aS w s t.inner
theorem Jw.ext {w w' : World} {t : V4.Told} {ps : List Int} {k c r : Int} {s : ah} (h : Jw w t ps k c r s) (hx : Ext w w') : Jw w' t ps k c r s := ⟨h.peer, h.n, h.inner.ext hx⟩
theorem Jw.zero {w : World} {t : V4.Told} (h : t = V4.Told.zero) : Jw w t [0, 0, 0, 0, 0, 0, 0, 0, 0, 0, 0, 0, 0, 0, 0, 0] 0 0 0 ⟨none, 0, 0⟩ := by
  subst h
  exact ⟨rfl, ⟨rfl, rfl, rfl⟩, aS.nil⟩
theorem Rj {w : World} {d : ah} {l : List UInt8} (hd : aS w d l) (hl : l.length <= 60000) {a b src dst ttl : Int} (ha : pX a) (hb : pX b) (h1 : 0 <= src ∧ src < 65536) (h2 : 0 <= dst ∧ dst < 65536) (h3 : 0 <= ttl ∧ ttl < 256) :
    dw a b src dst ttl d w fun r w' => (∃ p : dL, Dg p l.length ∧ aS w' r p.bytes ∧ p.src = a ∧ p.ttl = ttl) ∧ yX w r ∧ Ext w w' := by
  have ha' := ha.1
  have hb' := hb.1
  have ha2 := ha.2.1
  have hb2 := hb.2.1
  obtain ⟨a, rfl⟩ := Int.eq_ofNat_of_zero_le (show 0 <= a by omega)
  obtain ⟨b, rfl⟩ := Int.eq_ofNat_of_zero_le (show 0 <= b by omega)
  obtain ⟨src, rfl⟩ := Int.eq_ofNat_of_zero_le h1.1
  obtain ⟨dst, rfl⟩ := Int.eq_ofNat_of_zero_le h2.1
  obtain ⟨ttl, rfl⟩ := Int.eq_ofNat_of_zero_le h3.1
  refine iT (JB hd hl (by omega) (by omega) (by omega) (by omega) (by omega)) ?_
  rintro r w' ⟨⟨p, h1, h2, h3, h4, h5, h6, h7, h8, h9⟩, hn, hx⟩
  exact ⟨⟨p, ⟨h1, h3, h4, by rw [h5]; exact ha, by rw [h6]; exact hb, h7, h8⟩, h2, h5, h9⟩, hn, hx⟩
end Go.Proofs
end
section
namespace Go.Proofs
open Gp Gp.V4
set_option maxRecDepth 100000
set_option maxHeartbeats 1000000
def Hf (s : ah) (lo hi : Nat) : ah := ⟨kX s.a s.cap lo 1, hi - lo, s.cap - lo⟩
theorem TF {w : World} {s : ah} {l : List UInt8} (h : aS w s l) {lo hi : Nat} (h1 : lo <= hi) (h2 : hi <= l.length) : aS w (Hf s lo hi) ((l.take hi).drop lo) := by
  have := (fK (lo := (lo : Int)) (hi := (hi : Int)) (K := fun s' => aS w s' ((l.take hi).drop lo)) h (by omega) (by omega) (by omega) fun s' hs' _ => by simpa only [Int.toNat_natCast] using hs').2.2.2
  simp only [Int.toNat_natCast] at this
  exact this
theorem RQ {w : World} (t0 t1 t2 t3 v0 v1 v2 v3 v4 v5 v6 v7 v8 v9 v10 v11 v12 v13 v14 v15 v16 v17 v18 v19 v20 v21 v22 v23 v24 v25 v26 v27 v28 v29 v30 v31 : Int) {s : ah} (hs : s.len <= 2 ^ 46) : qJ t0 t1 t2 t3 v0 v1 v2 v3 v4 v5 v6 v7 v8 v9 v10 v11 v12 v13 v14 v15 v16 v17 v18 v19 v20 v21 v22 v23 v24 v25 v26 v27 v28 v29 v30 v31 s w fun r w' => r = 40 + (s.len : Int) ∧ Ext w w' := by
  apply Na
  refine aK fun a w1 r1 e1 z1 f1 => ?_
  simp only [sx, r1.cell]
  exact ⟨by rw [wrap_i64 (by omega) (by omega)], f1⟩
theorem O4 {w : World} {s : ah} {l : List UInt8} (hs : aS w s l) (hl : l.length <= 2 ^ 40) :
    oN s w fun t0 t1 t2 t3 r0 r1 r2 r3 r4 r5 r6 r7 r8 r9 r10 r11 r12 r13 r14 r15 r16 r17 r18 r19 r20 r21 r22 r23 r24 r25 r26 r27 r28 r29 r30 r31 s' e w' => e = jD l false ∧ (e = 0 -> vF w' (wR l) t0 t1 t2 t3 [r0, r1, r2, r3, r4, r5, r6, r7, r8, r9, r10, r11, r12, r13, r14, r15] [r16, r17, r18, r19, r20, r21, r22, r23, r24, r25, r26, r27, r28, r29, r30, r31] s' ∧ yX w s') ∧ Ext w w' := by
  apply JR
  refine aK fun a w1 r1 e1 z1 f1 => ?_
  refine LZ (Rz (hs.ext f1) hl false) ?_
  rintro u0 u1 u2 u3 v0 v1 v2 v3 v4 v5 v6 v7 v8 v9 v10 v11 v12 v13 v14 v15 v16 v17 v18 v19 v20 v21 v22 v23 v24 v25 v26 v27 v28 v29 v30 v31 s' e w2 ⟨he, hp, f2⟩
  refine aT (r1.ext f2) rfl rfl fun w3 r3 f3 _ => ?_
  have f3a := f3 (· = a) rfl
  have z1' := f1.size
  have z2 := f2.size
  simp only [sx, r3.cell]
  refine ⟨he, fun h0 => ?_, (f1.trans f2).new f3a fun y hy e => by omega⟩
  obtain ⟨h, hn⟩ := hp h0
  exact ⟨⟨h.n, h.src, h.dst, h.data.fr f3a fun x hx _ e => by have := hn x hx; omega⟩, fun x hx => by have := hn x hx; omega⟩
theorem or_one {n : Nat} (h : n % 8 = 0) (hn : n < 65536) : Bj .i64 (n : Int) 1 = ((n + 1 : Nat) : Int) := by
  have := xJ (a := n) (b := 1) (by omega) (by omega)
  rw [show ((1 : Nat) : Int) = 1 from rfl] at this
  rw [this]
  have e := sQ (a := n / 8) (k := 3) (b := 1) (by omega)
  rw [show n / 8 * 2 ^ 3 = n by omega] at e
  rw [e]
theorem Gz {w : World} {nx off id : Nat} (more : Bool) (h1 : nx < 256) (h2 : off < 65536) (h3 : off % 8 = 0) (h4 : id < 4294967296) :
    gX (nx : Int) (off : Int) (id : Int) more w fun r e w' => e = 0 ∧ Buf w' r (bytesV (lC nx off more id)) ∧ Ext w w' ∧ ∀ b, ah.at r b -> w.heap.size <= b := by
  apply AP
  refine aK fun a w1 r1 e1 z1 f1 => ?_
  intro J4
  have hJ : J4 false w1 := by
    simp -zeta only [J4, cond_false]
    simp -zeta only [sx, r1.cell]
    intro J8
    have hJ8 : ∀ p : Nat, p = off + (if more then 1 else 0) -> J8 (p : Int) := by
      intro p hp
      simp only [J8]
      refine aK fun b w2 r2 e2 z2 f2 => ?_
      have e8 : IntKind.u8.wrap (nx : Int) = ((UInt8.ofNat nx).toNat : Int) := by
        rw [IntKind.wrap_u8]; simp
      rw [e8] at r2
      have hs2 : aS w2 ⟨some ⟨b, 0, none⟩, 2, 2⟩ [UInt8.ofNat nx, 0] := by
        refine rU (A := []) (C := []) (l := [UInt8.ofNat nx, 0]) (L := bytesV [UInt8.ofNat nx, 0]) (o := 0) r2 ?_ ?_ rfl <;> simp
      have hp2 : p < 65537 := by rw [hp]; split <;> omega
      have hp3 : p < 65536 := by
        rw [hp]; split <;> omega
      refine lV (xB hs2 (by simp) (p : Int) 2) ?_
      rintro s3 w3 ⟨b3, f3, n3⟩
      have p2 : jU [UInt8.ofNat nx, 0] (p : Int) 2 = [UInt8.ofNat nx, 0] ++ dK 2 p := mO (k := 2) (by omega) (by omega)
      rw [p2] at b3
      have r13 := (r1.ext f2).ext f3
      simp only [List.getElem?_cons_zero, List.getElem?_cons_succ, aj, au, r13.cell]
      refine lV (xB (aS.aV b3) (by simp [aP]) (id : Int) 4) ?_
      rintro s4 w4 ⟨b4, f4, n4⟩
      have p4 : jU ([UInt8.ofNat nx, 0] ++ dK 2 p) (id : Int) 4 = [UInt8.ofNat nx, 0] ++ dK 2 p ++ dK 4 id := mO (k := 4) (by omega) (by omega)
      rw [p4] at b4
      have z1' := f1.size
      have z2' := f2.size
      have z3' := f3.size
      refine ⟨by trivial, ?_, ((f1.trans f2).trans f3).trans f4, fun c hc => by have := n4 c hc; omega⟩
      rw [hp] at b4
      exact b4
    clear_value J8
    cases more with
    | true =>
      rw [cond_true, or_one h3 h2]
      exact hJ8 _ (by simp)
    | false =>
      rw [cond_false]
      exact hJ8 _ (by simp)
  clear_value J4
  simp -zeta only [sx, r1.cell]
  refine cu (gW _ 1 w1) ?_
  rintro rr w2 ⟨hr, hw⟩
  subst hw
  rw [hr, decide_eq_true (show aU (nx : Int) 1 from ⟨⟨by omega, by omega⟩, by omega, by simp; omega⟩), Bool.not_true, cond_false]
  simp -zeta only [List.getElem?_cons_zero, List.getElem?_cons_succ, aj, au, r1.cell]
  refine cu (gW _ 4 w2) ?_
  rintro rr w3 ⟨hr, hw⟩
  subst hw
  rw [hr, decide_eq_true (show aU (id : Int) 4 from ⟨⟨by omega, by omega⟩, by omega, by simp; omega⟩), Bool.not_true, cond_false]
  simp -zeta only [List.getElem?_cons_zero, List.getElem?_cons_succ, aj, au, r1.cell]
  refine cu (gW _ 2 w3) ?_
  rintro rr w4 ⟨hr, hw⟩
  subst hw
  rw [hr, decide_eq_true (show aU (off : Int) 2 from ⟨⟨by omega, by omega⟩, by omega, by simp; omega⟩), Bool.not_true, cond_false]
  simp -zeta only [List.getElem?_cons_zero, List.getElem?_cons_succ, aj, au, r1.cell]
  refine ⟨by decide, ?_⟩
  have e : (Int.tmod (off : Int) 8 != 0) = false := by
    rw [Int.tmod_eq_emod_of_nonneg (by omega), bne_eq_false_iff_eq]; omega
  rw [e]
  exact hJ
theorem Ez {w : World} {nx : Int} {off id : Nat} (more : Bool) (h0 : 0 <= nx) (h1 : nx < 256) (h2 : off < 65536) (h3 : off % 8 = 0) (h4 : id < 4294967296) :
    gX nx (off : Int) (id : Int) more w fun r e w' => e = 0 ∧ Buf w' r (bytesV (lC nx.toNat off more id)) ∧ Ext w w' ∧ ∀ b, ah.at r b -> w.heap.size <= b := by
  obtain ⟨n, rfl⟩ := Int.eq_ofNat_of_zero_le h0
  rw [Int.toNat_natCast]
  exact Gz more (by omega) h2 h3 h4
abbrev yC : List Shape := [.agg [.int .i64, .int .i64, .int .i64, .bool], .one .slice]
def Tj (s : ah) (xs : List (Nat × Bool × List UInt8)) : List (vC yC) := xs.map fun x => ((0, (x.1 : Int), 0, x.2.1, ()), Hf s x.1 (x.1 + x.2.2.length), ())
theorem La {s : ah} {D : List UInt8} {f0 f1 most size : Nat} (hD : D.length <= 2 ^ 40) (hm : most <= 2 ^ 40) (hs8 : size = most / 8 * 8) (h8 : 8 <= most) :
    zB Tryz.prog yC (Value.func (.func r_) #[] #[(Value.pointer (some ⟨f0, 0, none⟩)), (Value.pointer (some ⟨f1, 0, none⟩))])
      (fun W => Row W f0 [.int .i64 (most : Int)] ∧ Row W f1 [.slice s.a s.len s.cap] ∧ aS W s D) (Tj s (dX most size D (D.length + 1) 0)) := by
  refine ⟨by kernel_rfl, fun n Q D' hC hQ hD' hy w h0 => ?_⟩
  refine Calls.mono (zx (a0 := .func (.yield n) #[] #[]) (f0 := ⟨f0, 0, none⟩) (f1 := ⟨f1, 0, none⟩) (K := fun w' => Q (Tj s (dX most size D (D.length + 1) 0)).length w' ∨ D' w') ?_) (fun e w' h => h)
  obtain ⟨r0, r1, hs⟩ := hC _ _ h0
  have hlen := hs.1
  have hyl : ∀ xs, (Tj s xs).length = xs.length := fun xs => by simp [Tj]
  rw [hyl]
  simp -zeta only [sx, r0.cell]
  refine ⟨by decide, ?_⟩
  generalize hxs : dX most size D (D.length + 1) 0 = xs at hy ⊢
  refine bn (fun st W => ∃ j k at_ : Nat, st.1 = (at_ : Int) ∧ at_ <= D.length ∧ D.length - at_ < k * size ∧ Q j W ∧ xs.drop j = dX most size D k at_) (fun st _ => D.length - st.1.toNat)
    ⟨0, D.length + 1, 0, rfl, Nat.zero_le _, by
      have h1 : (D.length + 1) * 1 <= (D.length + 1) * size := Nat.mul_le_mul_left _ (by omega)
      omega, h0, by rw [List.drop_zero, hxs]⟩ ?_
  rintro ⟨x, ⟨⟩⟩ W ⟨j, k, at_, rfl, ha, hk, hq, hd⟩ next hnext
  obtain ⟨r0, r1, hs⟩ := hC _ _ hq
  simp -zeta only [List.getElem?_cons_zero, aj, aA, au, r0.cell, r1.cell]
  rw [wrap_i64 (n := (s.len : Int) - (at_ : Int)) (by omega) (by omega)]
  cases k with
  | zero => omega
  | succ k =>
  unfold dX at hd
  by_cases hmore : D.length - at_ > most
  · rw [if_pos hmore] at hd
    rw [decide_eq_true (show ((s.len : Int) - (at_ : Int)) > (most : Int) by omega), cond_true]
    have esz : IntKind.i64.wrap ((IntKind.i64.wrap (Int.tdiv (most : Int) 8)) * 8) = (size : Int) := by
      rw [Int.tdiv_eq_ediv_of_nonneg (by omega), wrap_i64 (n := (most : Int) / 8) (by omega) (by omega), wrap_i64 (by omega) (by omega)]
      omega
    rw [esz]
    dsimp only
    simp only [cond_true]
    rw [wrap_i64 (by omega) (by omega)]
    have hsub : eY ⟨s.a, s.len, s.cap⟩ 1 (at_ : Int) ((at_ : Int) + (size : Int)) fun s' => s' = Hf s at_ (at_ + size) := by
      have hc := hs.2.2
      refine ⟨by omega, by omega, by simp only; omega, ?_⟩
      unfold Hf
      simp only [Int.toNat_natCast, show ((at_ : Int) + (size : Int)).toNat = at_ + size by omega]
    obtain ⟨q1, q2, q3, q4⟩ := hsub
    refine ⟨q1, q2, q3, ?_⟩
    rw [q4]
    have hx : (Tj s xs)[j]? = some ((0, (at_ : Int), 0, true, ()), Hf s at_ (at_ + size), ()) := by
      have h0 : xs[j]? = some (at_, true, (D.drop at_).take size) := by
        have := congrArg (fun l => l[0]?) hd
        simpa using this
      have e : ((D.drop at_).take size).length = size := by rw [List.length_take, List.length_drop]; omega
      unfold Tj
      rw [List.getElem?_map, h0]
      simp only [Option.map_some, e]
    refine kD (hy j _ W _ hx hq ?_ ?_)
    · intro W' hq'
      refine ⟨true, rfl, ?_⟩
      simp only [Bool.not_true, cond_false]
      refine hnext _ _ ⟨j + 1, k, at_ + size, by simp, by omega, by rw [Nat.add_mul] at hk; omega, hq', ?_⟩ (by simp only; omega)
      have := congrArg (List.drop 1) hd
      rw [List.drop_drop] at this
      simpa using this
    · intro W' hd'
      refine ⟨false, rfl, ?_⟩
      simp only [Bool.not_false, cond_true]
      exact .inr hd'
  · rw [if_neg hmore] at hd
    rw [decide_eq_false (show ¬ ((s.len : Int) - (at_ : Int)) > (most : Int) by omega), cond_false]
    dsimp only
    have hxl : xs.length = j + 1 := by
      have := congrArg List.length hd
      rw [List.length_drop] at this
      simp at this
      omega
    simp only [cond_true]
    rw [wrap_i64 (by omega) (by omega)]
    have hsub : eY ⟨s.a, s.len, s.cap⟩ 1 (at_ : Int) ((at_ : Int) + ((s.len : Int) - (at_ : Int))) fun s' => s' = Hf s at_ D.length := by
      have hc := hs.2.2
      refine ⟨by omega, by omega, by simp only; omega, ?_⟩
      unfold Hf
      simp only [Int.toNat_natCast, show ((at_ : Int) + ((s.len : Int) - (at_ : Int))).toNat = D.length by omega]
    obtain ⟨q1, q2, q3, q4⟩ := hsub
    refine ⟨q1, q2, q3, ?_⟩
    rw [q4]
    have hx : (Tj s xs)[j]? = some ((0, (at_ : Int), 0, false, ()), Hf s at_ D.length, ()) := by
      have h0 : xs[j]? = some (at_, false, D.drop at_) := by
        have := congrArg (fun l => l[0]?) hd
        simpa using this
      have e : at_ + (D.drop at_).length = D.length := by rw [List.length_drop]; omega
      unfold Tj
      rw [List.getElem?_map, h0]
      simp only [Option.map_some, e]
    refine kD (hy j _ W _ hx hq ?_ ?_)
    · intro W' hq'
      refine ⟨true, rfl, ?_⟩
      simp only [Bool.not_true, Bool.not_false, cond_false, cond_true]
      rw [hxl]
      exact .inl hq'
    · intro W' hd'
      refine ⟨false, rfl, ?_⟩
      simp only [Bool.not_false, cond_true]
      exact .inr hd'
end Go.Proofs
end
