import Derived.Test.YtcnkafgimclghaaHL5
/- A table does any calls as the document's. -/
namespace Go.Proofs
open Gp Gp.Hash
set_option maxRecDepth 100000
set_option maxHeartbeats 1000000

theorem yH_get (R : List KN) (i : Nat) : (yH R)[i]? = (R[i]?).map fun y => (y.1, y.2, ()) := by simp [yH]

theorem same18_ok {w : World} {b x s : Nat} {sr : SliceV} {L : List Ent} {R : List KN} {most m' : Int} {M : ByteArray → Option Int} (ht : TB w b s L most M) (hr : RT w x sr m' R) (hrep : Rep R M) (hl : R.length ≤ 1000) :
    c_law18_same (some ⟨b, 0, none⟩) (some ⟨x, 0, none⟩) w fun r w' => r = true ∧ Ext w w' := by
  apply ok_law18_same
  unfold s_law18_same
  refine ⟨rfl, Al_e fun pd w1 r1 e1 z1 f1 => Al_e fun pb w2 r2 e2 z2 f2 => Al_e fun pe w3 r3 e3 z3 f3 => ?_⟩
  refine St_row r3 rfl (by simp) fun w4 r4 f4 z4 => ?_
  simp only [List.set_cons_zero] at r4
  have f4e := f4 (· = pe) rfl
  have s1 := f1.size
  have s2 := f2.size
  have s3 := f3.size
  have x24 : Ext w2 w4 := f3.new f4e fun y hy e => by omega
  have x4 : Ext w w4 := (f1.trans f2).trans x24
  apply ok_hash_Table_All
  unfold s_hash_Table_All
  refine ⟨rfl, Al_e fun f0 w5 r5 e5 z5 f5 => ?_⟩
  have s4 := x4.size
  have s5 := f5.size
  have x5 := x4.trans f5
  have rd := ((r1.ext f2).ext x24).ext f5
  have rb := (r2.ext x24).ext f5
  have re := r4.ext f5
  have ht5 := ht.frn x5
  have hr5 := hr.ext x5
  have hla : lAt none w5 = w5.heap.size + 1 := rfl
  have hyl : (yH R).length = R.length := by simp [yH]
  have tl := hr.buf.len
  have hbl := ht.ht.hd.lt
  have hxl := hr.hd.lt
  have hsl : L ≠ [] → s < w.heap.size := fun hn => (ht.ht.row hn).lt
  have hs' : s < w.heap.size := by
    by_cases hn : L = []
    · rw [ht.nils hn]; exact hbl
    · exact hsl hn
  have hsr : ∀ z, SliceV.at sr z → z < w.heap.size := fun z hz => hr.buf.lt hz
  refine rng_iter2 (all_iter (b := b) (s := s) (f0 := f0) (L := L) (most := most) hrep) (fun i V => Row V pe [.int .i64 (i : Int)] ∧ Fr8 w5 V (· = pe) ∧ w5.heap.size + 2 ≤ V.heap.size) (fun _ _ => False) (by simp) ?_ ?_ ?_ (by intro e W W' h; exact h.elim) (by intro e W h; exact h.elim) ?_ ?_ (by intro W h; exact h.elim) (by intro id W h; exact h.elim)
  · intro w6 f6 z6
    exact ⟨re.ext f6, f6 _, by omega⟩
  · rintro i V ⟨_, q2, _⟩
    exact ⟨r5.fr q2 (by omega), ht5.fr q2 (by omega) (by omega)⟩
  · rintro i V V' ⟨q1, q2, q3⟩ hf
    exact ⟨q1.fr hf (by omega), q2.trans hf fun y hy e => by omega, by have := hf.size; omega⟩
  · intro i v V Kb hv ⟨q1, q2, q3⟩ hlt hnorm _
    rw [yH_get] at hv
    cases hL : R[i]? with
    | none => rw [hL] at hv; simp at hv
    | some y =>
    rw [hL] at hv
    simp only [Option.map_some, Option.some.injEq] at hv
    subst hv
    have hil : i < R.length := (List.getElem?_eq_some_iff.1 hL).1
    refine ⟨rfl, ?_⟩
    have fb : Ext (busyW V (lAt none w5)) (busyW V (lAt none w5)).drew := Ext.drew _
    have fV : Fr8 w5 (busyW V (lAt none w5)) (· = pe) := q2.trans (Fr8.busyW V _) fun y hy e => by omega
    have fV' := fV.ext fb
    have pE : Row (busyW V (lAt none w5)).drew pe _ := ((q1.fr (Fr8.busyW V _) (by omega)).ext fb)
    have pD : Row (busyW V (lAt none w5)).drew pd _ := rd.fr fV' (by omega)
    have hrV := hr5.fr fV' (by omega) fun c hc e => by have := hsr c hc; omega
    obtain ⟨aa, ha, hcell⟩ := hrV.cells hL
    have k0 := hcell 0 _ rfl
    have k1 := hcell 1 _ rfl
    rw [Nat.add_zero] at k0
    intro J16
    have hJ : J16 false (busyW V (lAt none w5)).drew := by
      simp only [J16, cond_false]
      simp only [Ld_eq, List.getElem?_cons_zero, LdV_some, dec_int, pE.cell]
      rw [wrap_i64 (by omega) (by omega)]
      refine St_row pE rfl (by simp) fun w7 r7 f7 z7 => ?_
      simp only [List.set_cons_zero] at r7
      have f7c := f7 (· = pe) rfl
      refine hnorm w7 (· = pe) (fb.fr f7c) (fun z hz => by omega) ⟨by simpa using r7, fV'.trans f7c fun y hy e => e, ?_⟩
      have : (busyW V (lAt none w5)).drew.heap.size = V.heap.size := by simp [busyW]
      omega
    clear_value J16
    have c1 : ¬ ((i : Int) ≥ (sr.len : Int)) := by omega
    simp only [cond_false, ex_some, Ld_eq, List.getElem?_cons_zero, LdV_some, dec_slice, dec_int, dec_ptr, dec_str, pE.cell, pD.cell, hrV.hd.cell, c1, decide_false, AtIx, ha, Int.toNat_natCast, k0]
    refine ⟨by omega, by omega, ?_⟩
    rw [strEq_iff.2 rfl, Bool.not_true, cond_false]
    simp only [LdV_some, dec_int, addr_add2, k1, bne_self_eq_false]
    exact ⟨by omega, by omega, hJ⟩
  · rintro V ⟨q1, q2, q3⟩ hm2
    have hmk2 := hm2 rfl
    rw [hyl] at q1
    have yV : Ext w V := x5.new q2 fun y hy e => by omega
    have yVd := yV.trans (Ext.drew V)
    have pE := q1.drew
    have pD : Row V.drew pd _ := (rd.fr q2 (by omega)).drew
    have pB : Row V.drew pb _ := (rb.fr q2 (by omega)).drew
    have hrV := hr.ext yVd
    have hV := ht.frn yVd
    have e1 : ((R.length : Int) == (sr.len : Int)) = true := by rw [beq_iff_eq]; omega
    have hcl : cnt L = R.length := cnt_len ht.t.dist ht.m hrep
    intro J39
    have hJ : ∀ W, Row W pb [.bool true] → Ext w W → W.heap[w5.heap.size]? = some (.deferred (some [])) → J39 W := by
      intro W hrow hx hmk
      simp only [J39]
      have pf := Fr8.putDef W w5.heap.size (.deferred none)
      refine ⟨hmk, ?_⟩
      simp only [Ld_eq, List.getElem?_cons_zero, LdV_some, dec_bool, (hrow.fr pf (by omega)).cell]
      exact ⟨by trivial, hx.new pf fun y hy e => by omega⟩
    clear_value J39
    simp only [cond_true, ex_some, Ld_eq, List.getElem?_cons_zero, LdV_some, dec_slice, dec_int, dec_ptr, pE.cell, pD.cell, hrV.hd.cell, e1]
    refine cm_hash_Table_Len (hlen_ok hV) ?_
    rintro _ w8 ⟨rfl, hw⟩
    subst hw
    simp only [true_and, List.getElem?_cons_zero, pE.cell]
    refine St_row pB rfl (by simp) fun w9 r9 f9 z9 => ?_
    simp only [List.set_cons_zero] at r9
    have f9b := f9 (· = pb) rfl
    refine hJ w9 (by rw [hcl, beq_self_eq_true] at r9; exact r9) (yVd.new f9b fun y hy e => by omega) ?_
    rw [f9b.same _ (by have : V.drew.heap.size = V.heap.size := rfl; omega) (by omega)]; exact hmk2
end Go.Proofs
