import Derived.Test.YtcnkafgimclghaaHL6
/- The law: a table does any calls in any order as the document says. -/
namespace Go.Proofs
open Gp Gp.Hash
set_option maxRecDepth 100000
set_option maxHeartbeats 1000000

abbrev From (w0 : World) (z : Option Nat) (y : Nat) : Prop := w0.heap.size ≤ y ∧ some y ≠ z
def fpO (b s : Nat) (y : Nat) : Prop := y = b ∨ y = s
def fpD (x : Nat) (sr : SliceV) (y : Nat) : Prop := y = x ∨ SliceV.at sr y

/-- Both tables, side by side; they have the same. -/
structure Bt (w0 W : World) (b x : Nat) (most : Int) (i : Nat) (z : Option Nat) (s : Nat) (L : List Ent) (M : ByteArray → Option Int) (sr : SliceV) (R : List KN) : Prop where
  tb : TB W b s L most M
  rt : RT W x sr most R
  rep : Rep R M
  len : R.length ≤ i
  dis : ∀ y, fpO b s y → ¬ fpD x sr y
  own : ∀ y, fpO b s y → From w0 z y
  doc : ∀ y, fpD x sr y → From w0 z y
  ext : Ext w0 W

section
variable {w0 W W' : World} {b x : Nat} {most : Int} {i : Nat} {z : Option Nat} {s : Nat} {L : List Ent} {M : ByteArray → Option Int} {sr : SliceV} {R : List KN}

theorem Bt.fwd (h : Bt w0 W b x most i z s L M sr R) (hf : Ext W W') : Bt w0 W' b x most i z s L M sr R :=
  ⟨h.tb.frn hf, h.rt.ext hf, h.rep, h.len, h.dis, h.own, h.doc, h.ext.trans hf⟩

theorem Bt.olt (h : Bt w0 W b x most i z s L M sr R) {y : Nat} (hy : fpO b s y) : y < W.heap.size := by
  have hb := h.tb.ht.hd.lt
  rcases hy with rfl | rfl
  · exact hb
  · by_cases hn : L = []
    · rw [h.tb.nils hn]; exact hb
    · exact (h.tb.ht.row hn).lt
theorem Bt.dlt (h : Bt w0 W b x most i z s L M sr R) {y : Nat} (hy : fpD x sr y) : y < W.heap.size := by
  rcases hy with rfl | hy
  · exact h.rt.hd.lt
  · exact h.rt.buf.lt hy

theorem Bt.off (h : Bt w0 W b x most i none s L M sr R) {p : Nat} (hp : W.heap.size ≤ p) : Bt w0 W b x most i (some p) s L M sr R :=
  ⟨h.tb, h.rt, h.rep, h.len, h.dis, fun y hy => ⟨(h.own y hy).1, fun e => by have := h.olt hy; simp at e; omega⟩, fun y hy => ⟨(h.doc y hy).1, fun e => by have := h.dlt hy; simp at e; omega⟩, h.ext⟩
theorem Bt.any (h : Bt w0 W b x most i z s L M sr R) : Bt w0 W b x most i none s L M sr R :=
  ⟨h.tb, h.rt, h.rep, h.len, h.dis, fun y hy => ⟨(h.own y hy).1, by simp⟩, fun y hy => ⟨(h.doc y hy).1, by simp⟩, h.ext⟩
theorem Bt.more (h : Bt w0 W b x most i z s L M sr R) {j : Nat} (hj : i ≤ j) : Bt w0 W b x most j z s L M sr R :=
  ⟨h.tb, h.rt, h.rep, Nat.le_trans h.len hj, h.dis, h.own, h.doc, h.ext⟩

theorem Bt.cnt (h : Bt w0 W b x most i z s L M sr R) : cnt L = R.length := cnt_len h.tb.t.dist h.tb.m h.rep

open Classical in
theorem rep_upd (h : Rep R M) (k : ByteArray) (n : Int) : Rep (putAt (del R k) k n) (upd M k (some n)) := by
  have e : upd M k (some n) = fun x => if x = k then some n else M x := by
    funext y; unfold upd; by_cases hy : y = k <;> simp [hy]
  rw [e]; exact rep_put h k n
open Classical in
theorem rep_none (h : Rep R M) (k : ByteArray) : Rep (del R k) (upd M k none) := by
  have e : upd M k none = fun x => if x = k then none else M x := by
    funext y; unfold upd; by_cases hy : y = k <;> simp [hy]
  rw [e]; exact rep_del h k
theorem put_len (R : List KN) (k : ByteArray) (n : Int) : (putAt (del R k) k n).length ≤ R.length + 1 := by
  have h1 := del_len R k
  have h2 := congrArg List.length (List.takeWhile_append_dropWhile (p := fun x : KN => strLt x.1 k) (l := del R k))
  rw [List.length_append] at h2
  have h3 : (putAt (del R k) k n).length = ((del R k).takeWhile (fun x : KN => strLt x.1 k)).length + (((del R k).dropWhile (fun x : KN => strLt x.1 k)).length + 1) := by
    unfold putAt
    rw [List.length_append, List.length_cons]
  omega

/-- Both are put a key. -/
theorem put_both {p : Nat} (h : Bt w0 W b x most i (some p) s L M sr R) (hi : i ≤ 1000) (hp : p < W.heap.size) (k : ByteArray) (n : Int) (hk : k.size ≤ 2 ^ 63 - 1) {l : List Value} (hr : Row W p l) {K : Int → World → Prop}
    (hK : ∀ e W', Row W' p l → (∀ K' : Int → World → Prop, (∀ W'' s' L' M' sr' R', Row W'' p l → Bt w0 W'' b x most (i + 1) (some p) s' L' M' sr' R' → K' e W'') → c_ref18_Table_Put (some ⟨x, 0, none⟩) k n W' K') → K e W') :
    c_hash_Table_Put (some ⟨b, 0, none⟩) k n W K := by
  have hc := h.cnt
  have hne : ∀ y, fpO b s y → y ≠ p := fun y hy e => (h.own y hy).2 (by rw [e])
  have hned : ∀ y, fpD x sr y → y ≠ p := fun y hy e => (h.doc y hy).2 (by rw [e])
  have hz0 := h.ext.size
  refine cm_hash_Table_Put (hput_ok h.tb k n hk) ?_
  rintro e W' (⟨rfl, h1, s', L', ht', _, hf, hs'⟩ | ⟨rfl, h1, h2, hf⟩)
  · have hz := hf.size
    have hr' := hr.fr hf fun hy => hne p hy rfl
    have hd' := h.rt.fr hf (fun hy => h.dis x hy (.inl rfl)) fun y hy hy' => h.dis y hy' (.inr hy)
    have hx1 : Ext w0 W' := h.ext.new hf fun y hy hh => by have := (h.own y hh).1; omega
    have ho' : ∀ y, fpO b s' y → fpO b s y ∨ W.heap.size ≤ y := by
      rintro y (rfl | rfl)
      · exact .inl (.inl rfl)
      · rcases hs' with e | e
        · exact .inl (.inr e)
        · exact .inr e
    have hxl := h.dlt (.inl rfl)
    refine hK 0 W' hr' fun K' hK' => cm_ref18_Table_Put (rput18_ok hd' h.rep (Nat.le_trans h.len hi) k n) ?_
    rintro e2 W2 (⟨rfl, _, hf2, sr', hd2, hn2⟩ | ⟨_, hM, hm2, _⟩)
    · have hz2 := hf2.size
      have dis1 : ∀ y, fpO b s' y → y ≠ x := fun y hy e => by
        rcases ho' y hy with g | g
        · exact h.dis y g (.inl e)
        · omega
      refine hK' W2 s' L' _ sr' _ (hr'.fr hf2 fun e => hned x (.inl rfl) e.symm) ⟨ht'.fr hf2 (dis1 b (.inl rfl)) (dis1 s' (.inr rfl)), hd2, rep_upd h.rep k n, Nat.le_trans (put_len R k n) (by have := h.len; omega), ?_, ?_, ?_, ?_⟩
      · rintro y hy (e | e)
        · exact dis1 y hy e
        · have := hn2 y e
          have hb' : b < W'.heap.size := ht'.ht.hd.lt
          rcases hy with rfl | rfl
          · omega
          · by_cases hn : L' = []
            · rw [ht'.nils hn] at this; omega
            · have := (ht'.ht.row hn).lt; omega
      · intro y hy
        rcases ho' y hy with g | g
        · exact h.own y g
        · refine ⟨by omega, fun e => ?_⟩
          simp at e; omega
      · rintro y (rfl | hy)
        · exact h.doc y (.inl rfl)
        · have := hn2 y hy
          refine ⟨by omega, fun e => ?_⟩
          simp at e; omega
      · exact hx1.new hf2 fun y hy e => by have := (h.doc x (.inl rfl)).1; omega
    · have := h1 hM; omega
  · have hf : Ext W W' := hf
    have h' := h.fwd hf
    refine hK 7 W' (hr.ext hf) fun K' hK' => cm_ref18_Table_Put (rput18_ok h'.rt h.rep (Nat.le_trans h.len hi) k n) ?_
    rintro e2 W2 (⟨_, hroom, _⟩ | ⟨rfl, _, _, hf2⟩)
    · have := hroom h1; omega
    · exact hK' W2 s L M sr R ((hr.ext hf).ext hf2) ((h'.fwd hf2).more (by omega))

/-- Both are taken a key. -/
theorem del_both {p : Nat} (h : Bt w0 W b x most i (some p) s L M sr R) (hi : i ≤ 1000) (hp : p < W.heap.size) (k : ByteArray) (hk : k.size ≤ 2 ^ 63 - 1) {l : List Value} (hr : Row W p l) {K : Bool → World → Prop}
    (hK : ∀ e W', Row W' p l → (∀ K' : Bool → World → Prop, (∀ W'' s' L' M' sr' R', Row W'' p l → Bt w0 W'' b x most (i + 1) (some p) s' L' M' sr' R' → K' e W'') → c_ref18_Table_Delete (some ⟨x, 0, none⟩) k W' K') → K e W') :
    c_hash_Table_Delete (some ⟨b, 0, none⟩) k W K := by
  have hne : ∀ y, fpO b s y → y ≠ p := fun y hy e => (h.own y hy).2 (by rw [e])
  have hned : ∀ y, fpD x sr y → y ≠ p := fun y hy e => (h.doc y hy).2 (by rw [e])
  have hz0 := h.ext.size
  refine cm_hash_Table_Delete (hdelete_ok h.tb k hk) ?_
  rintro e W' ⟨rfl, ⟨L', ht', _⟩, hf⟩
  have hz := hf.size
  have hr' := hr.fr hf fun hy => hne p hy rfl
  have hd' := h.rt.fr hf (fun hy => h.dis x hy (.inl rfl)) fun y hy hy' => h.dis y hy' (.inr hy)
  have hx1 : Ext w0 W' := h.ext.new hf fun y hy hh => by have := (h.own y hh).1; omega
  refine hK _ W' hr' fun K' hK' => cm_ref18_Table_Delete (rdel18_ok hd' h.rep (Nat.le_trans h.len hi) k) ?_
  rintro e2 W2 ⟨rfl, hf2, sr', hd2, hn2⟩
  have hz2 := hf2.size
  have dis1 : ∀ y, fpO b s y → y ≠ x := fun y hy e => h.dis y hy (.inl e)
  refine hK' W2 s L' _ sr' _ (hr'.fr hf2 fun e => hned x (.inl rfl) e.symm) ⟨ht'.fr hf2 (dis1 b (.inl rfl)) (dis1 s (.inr rfl)), hd2, rep_none h.rep k, Nat.le_trans (del_len R k) (by have := h.len; omega), ?_, h.own, ?_, ?_⟩
  · rintro y hy (e | e)
    · exact dis1 y hy e
    · have := hn2 y e
      have := h.olt hy
      omega
  · rintro y (rfl | hy)
    · exact h.doc y (.inl rfl)
    · have := hn2 y hy
      refine ⟨by omega, fun e => ?_⟩
      simp at e; omega
  · exact hx1.new hf2 fun y hy e => by have := (h.doc x (.inl rfl)).1; omega
end

def eD (d : Int × ByteArray × Int) : List Value := [.int .i64 d.1, .string d.2.1, .int .i64 d.2.2]
theorem eD_len (d : Int × ByteArray × Int) : (eD d).length = 3 := rfl

theorem lives18_ok {w : World} {a1 : SliceV} {ds : List (Int × ByteArray × Int)} (most : Int) (hs : SlN 3 eD w a1 ds) : c_law18_HashLives most a1 w fun r w' => r = true ∧ Ext w w' := by
  apply ok_law18_HashLives
  unfold s_law18_HashLives
  refine cm_law18_awake (hawake_ok w) ?_
  rintro r w1 ⟨rfl, x1⟩
  have x1 : Ext w w1 := x1
  simp -zeta only [Bool.not_true, cond_false]
  refine cm_hash_New (hnew_ok most w1) ?_
  rintro p1 e1 w2 ⟨x2, hnew⟩
  have x2 : Ext w1 w2 := x2
  refine cm_ref18_New (rnew18_ok most w2) ?_
  rintro p2 e2 w3 ⟨x3, hnew2⟩
  have x13 := (x1.trans x2).trans x3
  have hlen := hs.len
  intro J11
  rcases hnew with ⟨m0, m1, rfl, b, rfl, hb, ht⟩ | ⟨hbad, rfl, rfl⟩
  case inr =>
    rcases hnew2 with ⟨_, rfl, rfl⟩ | ⟨h0, h1, _⟩
    rotate_left
    · omega
    have hJ : J11 false := by
      simp -zeta only [J11, cond_false]
      intro J13
      have hJ13 : ∀ W, Ext w W → J13 W := by
        intro W hx
        simp only [J13, Option.isNone_none, cond_true]
        refine cm_law18_awake (hawake_ok W) ?_
        rintro r W' ⟨rfl, x'⟩
        exact ⟨rfl, hx.trans x'⟩
      clear_value J13
      refine LoopP_inv (fun st W => st.1 = 0 ∧ Ext w W) (fun _ _ => 0) ⟨rfl, x13⟩ ?_
      rintro ⟨i, ⟨⟩⟩ W ⟨hi, hx⟩ next _
      simp only at hi
      subst hi
      by_cases hlt : (0 : Int) < (a1.len : Int)
      · simp -zeta only [hlt, decide_true, cond_true]
        obtain ⟨aa, ha, hc⟩ := (hs.ext hx).at_ eD_len (by omega) (List.getElem?_eq_getElem (show 0 < ds.length by omega))
        generalize ds[0]'(by omega) = d at hc
        have k0 := hc 0 _ rfl
        have k1 := hc 1 _ rfl
        have k2 := hc 2 _ rfl
        simp -zeta only [AtIx, ha, Option.isNone_none, cond_true, ex_some, Ld_eq]
        refine ⟨by omega, by omega, ?_⟩
        simp -zeta only [addr_add2, show Int.toNat 0 = 0 from rfl, Nat.zero_mul, Nat.zero_add, Nat.zero_add, Nat.add_zero] at k0 k1 k2 ⊢
        simp -zeta only [k0, k1, k2, LdV_some, dec_int, dec_str]
        refine Al_e fun p w4 r4 e4 z4 f4 => ?_
        refine StN_full r4 rfl rfl fun w5 r5 f5 z5 => ?_
        have x5 : Ext W w5 := f4.new (f5 (· = p) rfl) fun y hy e => by omega
        intro J34
        have hJ34 : J34 true := by
          simp only [J34, cond_true]
          exact hJ13 w5 (hx.trans x5)
        clear_value J34
        rw [show decide ((0 : Int) ≥ 100) = false from rfl, cond_false]
        exact hJ34
      · simp only [hlt, decide_false, cond_false]
        exact hJ13 W hx
    clear_value J11
    rw [show ((1 : Int) != 1) = false from rfl, cond_false, show (!(((Option.isNone (none : Option Addr)) : Bool) == (Option.isNone (none : Option Addr)))) = false from rfl]
    exact hJ
  rcases hnew2 with ⟨hbad, _⟩ | ⟨_, _, rfl, x, rfl, hx0, hr⟩
  · exact absurd ⟨m0, m1⟩ hbad
  have z1 := x1.size
  have z2 := x2.size
  have z3 := x3.size
  have hbl := ht.ht.hd.lt
  have hxl := hr.hd.lt
  have hB0 : Bt w w3 b x most 0 none b [] (fun _ => none) ⟨none, 0, 0⟩ [] := by
    refine ⟨ht.frn x3, hr, ⟨List.Pairwise.nil, fun k n => by simp⟩, Nat.le_refl _, ?_, ?_, ?_, x13⟩
    · rintro y hy (e | ⟨o, e⟩)
      · rcases hy with g | g <;> omega
      · cases e
    · intro y hy
      rcases hy with g | g <;> exact ⟨by omega, by simp⟩
    · rintro y (e | ⟨o, e⟩)
      · exact ⟨by omega, by simp⟩
      · cases e
  have hJ : J11 false := by
    simp -zeta only [J11, cond_false]
    intro J13
    have hJ13 : ∀ W i s L M sr R, i ≤ 1000 → Bt w W b x most i none s L M sr R → J13 W := by
      intro W i s L M sr R hi hB
      simp -zeta only [J13]
      intro J15
      have hJ15 : ∀ r W', (r = true ∧ Ext w W') → J15 r W' := by
        intro r W' hx
        simp only [J15]
        exact hx
      clear_value J15
      simp only [Option.isNone_some, cond_false]
      refine cm_law18_same (same18_ok hB.tb hB.rt hB.rep (Nat.le_trans hB.len hi)) ?_
      rintro r W1 ⟨rfl, y1⟩
      simp only [cond_true]
      refine cm_law18_awake (hawake_ok W1) ?_
      rintro r W2 ⟨rfl, y2⟩
      exact hJ15 _ _ ⟨rfl, (hB.ext.trans y1).trans y2⟩
    clear_value J13
    refine LoopP_inv (fun st W => ∃ (i : Nat) (s : Nat) (L : List Ent) (M : ByteArray → Option Int) (sr : SliceV) (R : List KN), i ≤ 100 ∧ st.1 = (i : Int) ∧ Bt w W b x most i none s L M sr R) (fun st _ => (100 - st.1).toNat) ⟨0, b, [], _, _, [], by omega, rfl, hB0⟩ ?_
    rintro ⟨j, ⟨⟩⟩ W ⟨i, s, L, M, sr, R, hi, rfl, hB⟩ next hnext
    by_cases hlt : i < ds.length
    · have hlt' : ((i : Int) < (a1.len : Int)) := by omega
      simp -zeta only [hlt', decide_true, cond_true]
      obtain ⟨aa, ha, hc⟩ := (hs.ext hB.ext).at_ eD_len (by omega) (List.getElem?_eq_getElem hlt)
      generalize ds[i] = d at hc
      obtain ⟨op, k, n⟩ := d
      have k0 : W.cell? (aa.add (i * 3 + 0)) = some (.int .i64 op) := hc 0 _ rfl
      have k1 : W.cell? (aa.add (i * 3 + 1)) = some (.string k) := hc 1 _ rfl
      have k2 : W.cell? (aa.add (i * 3 + 2)) = some (.int .i64 n) := hc 2 _ rfl
      simp -zeta only [AtIx, ha, Option.isNone_some, cond_false, ex_some, Ld_eq, Int.toNat_natCast]
      refine ⟨by omega, by omega, ?_⟩
      simp -zeta only [addr_add2, Nat.add_zero] at k0 k1 k2 ⊢
      simp -zeta only [k0, k1, k2, LdV_some, dec_int, dec_str]
      refine Al_e fun p w4 r4 e4 z4 f4 => ?_
      refine StN_full r4 rfl rfl fun w5 r5 f5 z5 => ?_
      have f5p := f5 (· = p) rfl
      have x5 : Ext W w5 := f4.new f5p fun y hy e => by omega
      have hBp : Bt w w5 b x most i (some p) s L M sr R := by
        have h4 := (hB.off (p := p) (by omega)).fwd x5
        exact h4
      have hpl := r5.lt
      intro J34
      have hJt : J34 true := by
        simp only [J34, cond_true]
        exact hJ13 w5 i s L M sr R (by omega) hBp.any
      have hJf : i < 100 → k.size ≤ 200 → J34 false := by
        intro hi100 hk
        have hk' : k.size ≤ 2 ^ 63 - 1 := by omega
        simp -zeta only [J34, cond_false]
        intro J36
        have hJ36 : ∀ V s' L' M' sr' R', Row V p [.int .i64 op, .string k, .int .i64 n] → Bt w V b x most (i + 1) (some p) s' L' M' sr' R' → J36 true V := by
          intro V s' L' M' sr' R' hrow hBV
          simp -zeta only [J36]
          simp -zeta only [List.getElem?_cons_zero, List.getElem?_cons_succ, LdV_some, dec_str, add_mk, Nat.zero_add, hrow.cell]
          refine cm_hash_Table_Get (hget_ok hBV.tb k hk') ?_
          rintro n1 t1 V1 ⟨y1, rfl, rfl⟩
          have y1 : Ext V V1 := y1
          have hrow1 := hrow.ext y1
          have hB1 := hBV.fwd y1
          simp -zeta only [List.getElem?_cons_zero, List.getElem?_cons_succ, LdV_some, dec_str, hrow1.cell]
          refine cm_ref18_Table_Get (rget18_ok hB1.rt hB1.rep (Nat.le_trans hB1.len (by omega)) k) ?_
          rintro n2 t2 V2 ⟨rfl, rfl, hw⟩
          subst hw
          intro J47
          have hJ47 : J47 false := by
            simp only [J47, cond_false]
            rw [wrap_i64 (by omega) (by omega)]
            exact hnext _ _ ⟨i + 1, s', L', M', sr', R', by omega, by simp, hB1.any⟩ (by simp only; omega)
          clear_value J47
          rw [Bool.not_true, cond_false, bne_self_eq_false, cond_false, beq_self_eq_true, Bool.not_true]
          exact hJ47
        clear_value J36
        simp -zeta only [List.getElem?_cons_zero, LdV_some, dec_int, add_mk, Nat.zero_add, r5.cell]
        intro J50
        have hput : J50 true := by
          simp only [J50, cond_true]
          have r5d := r5.drew
          have hBd := hBp.fwd (Ext.drew w5)
          simp only [List.getElem?_cons_zero, List.getElem?_cons_succ, LdV_some, dec_int, dec_str, r5d.cell]
          refine put_both hBd (by omega) r5d.lt k n hk' r5d fun e V hrow hcont => ?_
          simp only [true_and, List.getElem?_cons_zero, List.getElem?_cons_succ, hrow.cell]
          refine hcont _ fun V' s' L' M' sr' R' hrow' hB' => ?_
          rw [beq_self_eq_true]
          exact hJ36 V' s' L' M' sr' R' hrow' hB'
        have hother : J50 false := by
          simp only [J50, cond_false]
          by_cases h3 : op = 3
          · rw [show (op == 3) = true by simpa using h3, cond_true]
            have r5d := r5.drew
            have hBd := hBp.fwd (Ext.drew w5)
            simp only [List.getElem?_cons_zero, List.getElem?_cons_succ, LdV_some, dec_str, r5d.cell]
            refine del_both hBd (by omega) r5d.lt k hk' r5d fun e V hrow hcont => ?_
            simp only [true_and, List.getElem?_cons_zero, List.getElem?_cons_succ, hrow.cell]
            refine hcont _ fun V' s' L' M' sr' R' hrow' hB' => ?_
            rw [beq_self_eq_true]
            exact hJ36 V' s' L' M' sr' R' hrow' hB'
          · rw [show (op == 3) = false by simpa using h3, cond_false]
            exact hJ36 w5 s L M sr R r5 (hBp.more (by omega))
        clear_value J50
        cases h0 : (op == 0) with
        | true => exact hput
        | false =>
          simp only [cond_false]
          cases h1 : (op == 1) with
          | true => exact hput
          | false =>
            simp only [cond_false]
            cases h2 : (op == 2) with
            | true => exact hput
            | false => exact hother
      clear_value J34
      by_cases h100 : (i : Int) ≥ 100
      · rw [decide_eq_true h100, cond_true]
        exact hJt
      rw [decide_eq_false h100, cond_false]
      simp -zeta only [List.getElem?_cons_zero, List.getElem?_cons_succ, LdV_some, dec_str, add_mk, Nat.zero_add, r5.cell]
      by_cases h200 : ((k.size : Nat) : Int) > 200
      · rw [decide_eq_true h200]; exact hJt
      · rw [decide_eq_false h200]; exact hJf (by omega) (by omega)
    · have hlt' : ¬ ((i : Int) < (a1.len : Int)) := by omega
      simp only [hlt', decide_false, cond_false]
      exact hJ13 W i s L M sr R (by omega) hB
  clear_value J11
  rw [show ((0 : Int) != 0) = false from rfl, cond_false, show (!(((Option.isNone (some (⟨b, 0, none⟩ : Addr))) : Bool) == (Option.isNone (some (⟨x, 0, none⟩ : Addr))))) = false from rfl]
  exact hJ
end Go.Proofs
