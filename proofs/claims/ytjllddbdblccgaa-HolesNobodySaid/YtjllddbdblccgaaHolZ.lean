import Derived.Test.YtjllddbdblccgaaHolY
/- Parts of a datagram: the laws. -/
namespace Go.Proofs
open Gp Gp.Hol
set_option maxRecDepth 100000

theorem roomP_perm {l L : List Pc} (hp : l.Perm L) (off : Int) (b : List UInt8) : roomP l off b = roomP L off b := by
  unfold roomP
  simp only [hp.mem_iff]

theorem live_ok {w : World} {s : SliceV} {xs : List P3} {ps : List Pc} (hs : SlN 3 eP w s xs) (hp : PcsAt w xs ps) : c_law15_HolesLive s w fun r w' => r = true ∧ Ext w w' := by
  apply ok_law15_HolesLive
  unfold s_law15_HolesLive
  have hlen := hs.len
  have hxl := hp.len
  refine cm_law15_awake (awake15_ok w) ?_
  rintro r w1 ⟨rfl, f1⟩
  rw [Bool.not_true, cond_false]
  refine cm_law15_far (lawfar_ok (hs.ext f1) (hp.ext f1)) ?_
  rintro r w2 ⟨hfar, f2⟩
  have e2 := f1.trans f2
  cases r
  case true =>
    rw [cond_true]
    refine cm_law15_awake (awake15_ok w2) ?_
    rintro r w3 ⟨rfl, f3⟩
    exact ⟨rfl, e2.trans f3⟩
  rw [cond_false]
  obtain ⟨h60, hsz⟩ := hfar rfl
  refine cm_holes_New (new_ok w2) ?_
  rintro v w3 ⟨h, rfl, eh, z3, H, f3⟩
  refine Al_e fun x w4 rx ex z4 f4 => ?_
  have B := both_new w e2 eh z3 H rx ex f4
  have e4 := (e2.trans f3).trans f4
  refine LoopP_inv (fun st W => ∃ j : Nat, j ≤ ps.length ∧ st.1 = (j : Int) ∧ Ext w W ∧ ∃ s' xs' l t ys L, Both w.heap.size W h s' xs' l x t ys L ∧ L.length ≤ j) (fun st _ => (ps.length - st.1).toNat) ⟨0, by omega, rfl, e4, _, _, _, _, _, _, B, by simp⟩ ?_
  clear B H rx
  rintro ⟨i, ⟨⟩⟩ W ⟨j, hj, hi, hw, s', xs', l, t, ys, L, B, hLl⟩ next hnext
  simp only at hi
  subst hi
  have hll := B.perm.length_eq
  by_cases hlt : (j : Int) < (s.len : Int)
  · rw [decide_eq_true hlt, cond_true]
    have hx := List.getElem?_eq_getElem (show j < xs.length by omega)
    have hxm := List.getElem_mem (show j < xs.length by omega)
    generalize xs[j] = y at hx hxm
    obtain ⟨p, hpj, e1, e2', e3⟩ := hp.get hx
    have hblk := fun a (ha : y.2.2.1.a = some a) h0 => dlt hp hxm ha h0
    obtain ⟨y0, y1, y2, ⟨⟩⟩ := y
    obtain ⟨p0, p1, p2⟩ := p
    simp only at e1 e2' e3 hblk
    subst e1 e2'
    have hpl := hsz _ (List.mem_of_getElem? hpj)
    simp only at hpl
    refine SlN_ix eP_len (by omega) (hs.ext hw) (by simp only; omega) (by simp only; rw [Int.toNat_natCast]; exact hx) fun a hc => ?_
    have c0 : W.cell? (a.add 0) = some (.int .i64 y0) := hc 0 _ rfl
    have c1 : W.cell? (a.add 1) = some (.bool y1) := hc 1 _ rfl
    have c2 : W.cell? (a.add 2) = some (.slice y2.a y2.len y2.cap) := hc 2 _ rfl
    simp -zeta only [Ld_eq, LdV_some, dec_slice, dec_int, dec_bool, c0, c1, c2]
    refine Al_f rfl rfl fun u W1 ru eu zu fu => ?_
    have hW1 := hw.trans fu
    intro J
    have hF : ∀ W2 s' xs' l t ys L, Ext w W2 → Both w.heap.size W2 h s' xs' l x t ys L → L.length ≤ j + 1 → J false W2 := by
      intro W2 s' xs' l t ys L h1 h2 h3
      simp only [J, cond_false]
      rw [wrap_i64 (by omega) (by omega)]
      exact hnext _ _ ⟨j + 1, by omega, by simp, h1, _, _, _, _, _, _, h2, h3⟩ (by simp only; omega)
    clear_value J
    have fd := fu.trans (Ext.drew W1)
    have BD := B.ext fd
    have ruD := ru.drew
    have hWD := hw.trans fd
    simp -zeta only [List.getElem?_cons_zero, List.getElem?_cons_succ, LdV_some, dec_slice, dec_int, add_mk, Nat.zero_add, ruD.cell]
    refine cm_holes_Holes_Room (room_ok BD.H (by omega) (e3.ext hWD)) ?_
    rintro r W2 ⟨rfl, g2⟩
    have ru2 := ruD.ext g2
    have B2 := BD.ext g2
    have hW2 := hWD.trans g2
    simp -zeta only [List.getElem?_cons_zero, List.getElem?_cons_succ, ru2.cell, true_and]
    refine cm_ref15_Holes_Room (rroom_ok B2.R (by omega) (e3.ext hW2)) ?_
    rintro r W3 ⟨rfl, g3⟩
    have ru3 := ru2.ext g3
    have B3 := B2.ext g3
    have hW3 := hW2.trans g3
    rw [roomP_perm B.perm, show (roomP L y0 p2 != roomP L y0 p2) = false by simp, cond_false]
    simp -zeta only [List.getElem?_cons_zero, List.getElem?_cons_succ, LdV_some, dec_slice, dec_int, dec_bool, ru3.cell]
    have huW : u < W1.heap.size := ru.lt
    have hne : u ≠ h ∧ u ≠ x ∧ ¬ SliceV.at s' u := by
      have k1 := B.H.row.lt
      have k2 := B.R.row.lt
      exact ⟨by omega, by omega, fun hc => by have := B.H.buf.lt hc; omega⟩
    refine both_add (K := fun r r' w2 => bif (r != r') then J true w2 else c_holes_Holes_Bytes (some ⟨h, 0, none⟩) w2 fun r43 w44 => c_ref15_Holes_Bytes (some ⟨x, 0, none⟩) w44 fun r45 w46 => J (r43 != r45) w46)
      B3 (by omega) (e3.ext hW3) (by omega) (fun a ha h0 => hblk a ha h0) ?_ ?_
    · intro W4 s4 xs4 l4 t4 ys4 B4 _ g4
      simp only [bne_self_eq_false, cond_false]
      have hW4 := hW3.new g4 fun c hc e => by omega
      have hl4 := B4.perm.length_eq
      have hal := add_len L (y0, y1, p2)
      refine cm_holes_Holes_Bytes (bytes_ok B4.H) ?_
      rintro r w0 ⟨rfl, hw0⟩
      have hw0 := hw0.symm
      subst hw0
      refine cm_ref15_Holes_Bytes (rbytes_ok B4.R (by omega) fun p hp => ⟨(B4.GL.ok p hp).1, (B4.GL.ok p hp).2.1⟩) ?_
      rintro r w0 ⟨rfl, hw0⟩
      have hw0 := hw0.symm
      subst hw0
      rw [sum_perm B4.perm, show (sum (add L (y0, y1, p2)).2 != sum (add L (y0, y1, p2)).2) = false by simp]
      exact hF _ _ _ _ _ _ _ hW4 B4 (by omega)
    · intro r W4 hrow hh
      have ru4 := hrow u _ ru3 hne.1 hne.2.1 hne.2.2
      simp only [List.getElem?_cons_zero, List.getElem?_cons_succ, ru4.cell, true_and]
      exact hh
  · rw [decide_eq_false hlt, cond_false]
    refine cm_holes_Holes_Done (done_ok B.H B.G (by omega)) ?_
    rintro r ok W1 ⟨hd, g1⟩
    have B1 := B.ext g1
    refine cm_ref15_Holes_Done (rdone_ok B1.R B1.GL (by omega)) ?_
    rintro r' ok' W2 ⟨hd', g2⟩
    have hW2 := (hw.trans g1).trans g2
    have hlE := lastE_perm B.G.one B.perm
    have hsE := sum_perm B.perm
    have hboth : ok = ok' ∧ ∃ m, SlB W2 r m ∧ SlB W2 r' m := by
      rcases hd with ⟨rfl, k1, k2, k3⟩ | ⟨rfl, k1, k2⟩
      · have hsum := (done_iff B.G B.srt k1).1 k2
        rcases hd' with ⟨rfl, _, _, out, m1, m2, m3⟩ | ⟨_, m1, _⟩
        · refine ⟨rfl, out, ?_, m1⟩
          rw [← cat_eq B.G B.srt k1 hsum (by rw [hlE]; exact m2) fun p hp k hk => m3 p (B.perm.mem_iff.1 hp) k hk]
          exact k3.ext g2
        · exfalso
          rcases m1 with h | h
          · omega
          · exact h (by rw [← hsE, hsum, hlE])
      · rcases hd' with ⟨rfl, m0, m1, _⟩ | ⟨rfl, _, m2⟩
        · exfalso
          rcases k1 with h | h
          · omega
          · exact h ((done_iff B.G B.srt (by omega)).2 (by rw [hsE, m1, hlE]))
        · exact ⟨rfl, [], k2.ext g2, m2⟩
    obtain ⟨rfl, m, h1, h2⟩ := hboth
    intro J
    rw [show (ok == ok) = true by simp, cond_true]
    refine cm_bytes_Equal (equal_ok h1 h2) ?_
    rintro r w0 ⟨rfl, hw0⟩
    have hw0 := hw0.symm
    subst hw0
    rw [decide_eq_true rfl, cond_true]
    refine cm_law15_awake (awake15_ok W2) ?_
    rintro r W3 ⟨rfl, g3⟩
    exact ⟨rfl, hW2.trans g3⟩

theorem SlN_int {w : World} {s : SliceV} {l : List Int} (h : SlN 1 eI w s l) {k : Nat} {z : Int} (hk : l[k]? = some z) {K : Addr → Prop} (hK : ∀ a, w.cell? a = some (.int .i64 z) → K a) : AtIx s 1 (k : Int) K :=
  SlN_ix eI_len (by omega) h (by omega) (by rw [Int.toNat_natCast]; exact hk) fun a hc => hK a (hc 0 _ rfl)

theorem flatG_get {l : List (Int × Int)} {i : Nat} {g : Int × Int} (h : l[i]? = some g) : (flatG l)[2 * i]? = some g.1 ∧ (flatG l)[2 * i + 1]? = some g.2 := by
  induction l generalizing i with
  | nil => simp at h
  | cons a l ih =>
    cases i with
    | zero => cases h; exact ⟨rfl, rfl⟩
    | succ i =>
      have := ih (i := i) (by simpa using h)
      rw [show 2 * (i + 1) = 2 * i + 2 by omega]
      exact this

theorem flatG_len (l : List (Int × Int)) : (flatG l).length = 2 * l.length := by
  induction l with
  | nil => rfl
  | cons a l ih =>
    have : (flatG (a :: l)).length = 2 + (flatG l).length := by simp [flatG]; omega
    rw [this, ih, List.length_cons]; omega

theorem gaps_len : ∀ (l : List Pc) (a last : Int), (gaps a l last).length ≤ l.length + 1 := by
  intro l
  induction l with
  | nil => intro a last; rw [gaps_end]; split <;> simp
  | cons p l ih =>
    intro a last
    rw [gaps_cons]
    have := ih (max a (pend p)) last
    split <;> simp only [List.length_append, List.length_cons, List.length_nil] <;> omega

theorem gapslaw_ok {w : World} {s : SliceV} {xs : List P3} {ps : List Pc} (hs : SlN 3 eP w s xs) (hp : PcsAt w xs ps) : c_law15_HolesGaps s w fun r w' => r = true ∧ Ext w w' := by
  apply ok_law15_HolesGaps
  unfold s_law15_HolesGaps
  have hlen := hs.len
  have hxl := hp.len
  refine Al_e fun q wq rq eq zq fq => ?_
  refine cm_law15_awake (awake15_ok wq) ?_
  rintro r w1 ⟨rfl, f1⟩
  rw [Bool.not_true, cond_false]
  have e1 := fq.trans f1
  refine cm_law15_far (lawfar_ok (hs.ext e1) (hp.ext e1)) ?_
  rintro r w2 ⟨hfar, f2⟩
  have e2 := e1.trans f2
  have rq2 := (rq.ext f1).ext f2
  cases r
  case true =>
    rw [cond_true]
    refine cm_law15_awake (awake15_ok w2) ?_
    rintro r w3 ⟨rfl, f3⟩
    refine St_row (rq2.ext f3) rfl (by simp) fun w4 r4 g4 z4 => ?_
    simp only [List.set_cons_zero] at r4
    simp only [Ld_eq, List.getElem?_cons_zero, LdV_some, dec_bool, r4.cell]
    exact ⟨by trivial, (e2.trans f3).new (g4 (· = q) rfl) fun c hc e => by omega⟩
  rw [cond_false]
  obtain ⟨h60, hsz⟩ := hfar rfl
  have hq2 := rq2.lt
  refine cm_holes_New (new_ok w2) ?_
  rintro v w3 ⟨h, rfl, eh, z3, H, f3⟩
  refine Al_e fun x w4 rx ex z4 f4 => ?_
  have B := both_new w e2 eh z3 H rx ex f4
  have e4 := (e2.trans f3).trans f4
  have rq4 := (rq2.ext f3).ext f4
  refine LoopP_inv (fun st W => ∃ j : Nat, j ≤ ps.length ∧ st.1 = (j : Int) ∧ Ext w W ∧ Row W q [.bool false] ∧ ∃ s' xs' l t ys L, Both w.heap.size W h s' xs' l x t ys L ∧ L.length ≤ j ∧ ¬ SliceV.at s' q) (fun st _ => (ps.length - st.1).toNat) ⟨0, by omega, rfl, e4, rq4, _, _, _, _, _, _, B, by simp, fun hc => no_at hc⟩ ?_
  clear B H rx rq4
  rintro ⟨i, ⟨⟩⟩ W ⟨j, hj, hi, hw, rqW, s', xs', l, t, ys, L, B, hLl, hsq⟩ next hnext
  simp only at hi
  subst hi
  have hll := B.perm.length_eq
  have kh := B.H.row.lt
  have kx := B.R.row.lt
  have kq := rqW.lt
  have hqh : q ≠ h ∧ q ≠ x := ⟨by omega, by omega⟩
  by_cases hlt : (j : Int) < (s.len : Int)
  · rw [decide_eq_true hlt, cond_true]
    have hx := List.getElem?_eq_getElem (show j < xs.length by omega)
    have hxm := List.getElem_mem (show j < xs.length by omega)
    generalize xs[j] = y at hx hxm
    obtain ⟨p, hpj, e1, e2', e3⟩ := hp.get hx
    have hblk := fun a (ha : y.2.2.1.a = some a) h0 => dlt hp hxm ha h0
    obtain ⟨y0, y1, y2, ⟨⟩⟩ := y
    obtain ⟨p0, p1, p2⟩ := p
    simp only at e1 e2' e3 hblk
    subst e1 e2'
    have hpl := hsz _ (List.mem_of_getElem? hpj)
    simp only at hpl
    refine SlN_ix eP_len (by omega) (hs.ext hw) (by simp only; omega) (by simp only; rw [Int.toNat_natCast]; exact hx) fun a hc => ?_
    have c0 : W.cell? (a.add 0) = some (.int .i64 y0) := hc 0 _ rfl
    have c1 : W.cell? (a.add 1) = some (.bool y1) := hc 1 _ rfl
    have c2 : W.cell? (a.add 2) = some (.slice y2.a y2.len y2.cap) := hc 2 _ rfl
    simp -zeta only [Ld_eq, LdV_some, dec_slice, dec_int, dec_bool, c0, c1, c2]
    refine Al_f rfl rfl fun u W1 ru eu zu fu => ?_
    have hW1 := hw.trans fu
    have B1 := B.ext fu
    simp -zeta only [List.getElem?_cons_zero, List.getElem?_cons_succ, LdV_some, dec_slice, dec_int, dec_bool, add_mk, Nat.zero_add, ru.cell]
    have hne : u ≠ h ∧ u ≠ x ∧ ¬ SliceV.at s' u := ⟨by omega, by omega, fun hc => by have := B.H.buf.lt hc; omega⟩
    have hal := add_len L (y0, y1, p2)
    have hqW : q ≠ u := by omega
    have hq1 := rqW.ext fu
    refine both_add (K := fun _ _ w2 => next (IntKind.i64.wrap ((j : Int) + 1), ()) w2) B1 (by omega) (e3.ext hW1) (by omega) (fun a ha h0 => hblk a ha h0) ?_ ?_
    · intro W4 s4 xs4 l4 t4 ys4 B4 hrow g4
      have hW4 := hW1.new g4 fun c hc e => by omega
      obtain ⟨r4, n4⟩ := hrow q _ hq1 hqh.1 hqh.2 hsq
      rw [wrap_i64 (by omega) (by omega)]
      exact hnext _ _ ⟨j + 1, by omega, by simp, hW4, r4, _, _, _, _, _, _, B4, by omega, n4⟩ (by simp only; omega)
    · intro r W4 hrow hh
      have ru4 := hrow u _ ru hne.1 hne.2.1 hne.2.2
      simp only [List.getElem?_cons_zero, List.getElem?_cons_succ, LdV_some, dec_slice, dec_int, dec_bool, ru4.cell]
      exact hh
  · rw [decide_eq_false hlt, cond_false]
    refine cm_ref15_Holes_Gaps (rgaps_ok B.R B.GL (by omega)) ?_
    rintro rs w5 ⟨hrs, g5⟩
    rw [gaps_runs B.G B.srt B.perm] at hrs
    have B5 := B.ext g5
    have rq5 := rqW.ext g5
    have hw5 := hw.trans g5
    refine Al_e fun c w6 rc ec zc fc => ?_
    refine St_row rc rfl (by simp) fun w7 rc gc z7 => ?_
    simp only [List.set_cons_zero] at rc
    refine Al_e fun d w8 rd ed zd fd => ?_
    refine St_row rd rfl (by simp) fun w9 rd gd z9 => ?_
    simp only [List.set_cons_zero] at rd
    have k5 := rq5.lt
    have kh5 := B5.H.row.lt
    have e59 : Ext w5 w9 := ((fc.new (gc (· = c) rfl) fun y hy e => by omega).trans fd).new (gd (· = d) rfl) fun y hy e => by omega
    have rc9 := (rc.ext fd).fr (gd (· = d) rfl) (by omega)
    have B9 := B5.ext e59
    have rq9 := rq5.ext e59
    have hrs9 := hrs.ext e59
    have hg : ∀ p ∈ l, 0 ≤ p.1 ∧ pend p ≤ 65535 := fun p hp => ⟨(B.G.ok p hp).1, (B.G.ok p hp).2.1⟩
    refine cm_holes_Holes_Gaps (gaps_ok B9.H (by omega) hg) ?_
    rintro v w10 ⟨g10, f0, hf0, rf, hv⟩
    have e10 := e59.trans g10
    have hw10 := hw5.trans e10
    have rq10 := rq9.ext g10
    have rc10 := rc9.ext g10
    have rd10 := rd.ext g10
    have B10 := B9.ext g10
    have hrs10 := hrs9.ext g10
    have hgl := gaps_len l 0 (lastE l)
    generalize hgs : gaps 0 l (lastE l) = gs at *
    have hrl : rs.len = 2 * gs.length := by rw [hrs10.len, flatG_len]
    have zq := rq10.lt
    have zc10 := rc10.lt
    have zd10 := rd10.lt
    have zf10 := rf.lt
    have zw := hw10.size
    have lq : lAt none w10 = w10.heap.size + 1 := rfl
    have hslt : ∀ a, rs.a = some a → 0 < (flatG gs).length → a.block < w10.heap.size := by
      intro a ha h0
      obtain ⟨z, hz⟩ : ∃ z, (flatG gs)[0]? = some z := ⟨_, List.getElem?_eq_getElem h0⟩
      obtain ⟨a', ha', hc⟩ := hrs10.at_ eI_len (by omega) hz
      rw [ha] at ha'
      cases ha'
      have := cell_lt (hc 0 _ rfl)
      rwa [block_add] at this
    refine rng_iter2 hv (fun i W => i ≤ gs.length ∧ Row W q [.bool false] ∧ Row W c [.slice rs.a rs.len rs.cap] ∧ Row W d [.int .i64 (i : Int)] ∧ Row W f0 [.pointer (some ⟨h, 0, none⟩)] ∧ HAt W h s' xs' l (lastE l) ∧ SlN 1 eI W rs (flatG gs) ∧ Ext w W)
      (fun _ _ => False) (by simp) ?_ ?_ ?_ ?_ ?_ ?_ ?_ ?_ ?_
    · exact fun W hx _ => ⟨by omega, rq10.ext hx, rc10.ext hx, rd10.ext hx, rf.ext hx, B10.H.ext hx, hrs10.ext hx, hw10.trans hx⟩
    · exact fun i W hI => ⟨hI.2.2.2.2.1, hI.2.2.2.2.2.1⟩
    · rintro i W W' ⟨h0, h1, h2, h3, h4, h5, h6, h7⟩ hf
      rw [lq] at hf
      refine ⟨h0, h1.fr hf (by omega), h2.fr hf (by omega), h3.fr hf (by omega), h4.fr hf (by omega), h5.fr hf (by have := B10.H.row.lt; omega) (fun y hy => by have := B10.H.buf.lt hy; omega) (fun y hy a ha hl0 hc => by have := dlt B10.H.pcs hy ha hl0; omega), h6.fr hf (fun a ha hl0 hc => by have := hslt a ha hl0; omega), h7.new hf fun y hy e => by omega⟩
    · exact fun e W W' hJ => hJ.elim
    · exact fun e W hJ => hJ.elim
    · rintro i y W Kb hy ⟨h0, h1, h2, h3, h4, h5, h6, h7⟩ hlt' hn hj
      rw [lq] at hlt' hn hj ⊢
      have hy' : Option.map (fun g : Int × Int => ((g.1, g.2, ()) : Int × Int × Unit)) gs[i]? = some y := by rw [← List.getElem?_map]; exact hy
      obtain ⟨g, hg1, hg2⟩ := Option.map_eq_some_iff.1 hy'
      subst hg2
      have hil := (List.getElem?_eq_some_iff.1 hg1).1
      obtain ⟨hv1, hv2⟩ := flatG_get hg1
      refine ⟨by trivial, ?_⟩
      have fb := Fr8.busyW W (w10.heap.size + 1)
      have k1 := h1.fr fb (by omega)
      have k2 := h2.fr fb (by omega)
      have k3 := h3.fr fb (by omega)
      have k4 := h4.fr fb (by omega)
      have k5 : HAt (busyW W (w10.heap.size + 1)) h s' xs' l (lastE l) := h5.fr fb (by have := B10.H.row.lt; omega) (fun y hy => by have := B10.H.buf.lt hy; omega) (fun y hy a ha hl0 hc => by have := dlt B10.H.pcs hy ha hl0; omega)
      have k6 : SlN 1 eI (busyW W (w10.heap.size + 1)) rs (flatG gs) := h6.fr fb (fun a ha hl0 hc => by have := hslt a ha hl0; omega)
      have k7 : Ext w (busyW W (w10.heap.size + 1)) := h7.new fb fun y hy e => by omega
      generalize busyW W (w10.heap.size + 1) = Wb at *
      intro J
      have hJ : J false := by
        simp only [J, cond_false, cond_false, Ld_eq, List.getElem?_cons_zero, LdV_some, dec_int, k3.cell]
        rw [wrap_i64 (by omega) (by omega)]
        refine St_row k3 rfl (by simp) fun W2 r2 g2 z2 => ?_
        simp only [List.set_cons_zero] at r2
        have hdne : d ≠ h := by have := B5.H.row.lt; omega
        refine hn W2 (· = d) (g2 (· = d) rfl) (fun y e => by omega) ⟨by omega, k1.fr (g2 (· = d) rfl) (by omega), k2.fr (g2 (· = d) rfl) (by omega), by rw [show ((i + 1 : Nat) : Int) = (i : Int) + 1 by omega]; exact r2, k4.fr (g2 (· = d) rfl) (by omega), k5.fr (g2 (· = d) rfl) (fun e => hdne e.symm) (fun y hy e => by have := B5.H.buf.lt hy; omega) (fun y hy a ha hl0 e => by have := dlt B5.H.pcs hy ha hl0; omega), k6.fr (g2 (· = d) rfl) (fun a ha hl0 e => ?_), k7.new (g2 (· = d) rfl) fun y hy e => by omega⟩
        have hlt5 : a.block < w5.heap.size := by
          obtain ⟨z, hz⟩ : ∃ z, (flatG gs)[0]? = some z := ⟨_, List.getElem?_eq_getElem hl0⟩
          obtain ⟨a', ha', hc⟩ := hrs.at_ eI_len (by omega) hz
          rw [ha] at ha'
          cases ha'
          have := cell_lt (hc 0 _ rfl)
          rwa [block_add] at this
        omega
      clear_value J
      simp -zeta only [Ld_eq, List.getElem?_cons_zero, LdV_some, dec_slice, dec_int, k3.cell, k2.cell]
      rw [wrap_i64 (n := 2 * (i : Int)) (by omega) (by omega), wrap_i64 (n := 2 * (i : Int) + 1) (by omega) (by omega), decide_eq_false (by rw [hrl]; omega), cond_false]
      rw [show 2 * (i : Int) = ((2 * i : Nat) : Int) by omega]
      refine SlN_int k6 hv1 fun a ha => ?_
      simp -zeta only [LdV_some, dec_int, ha]
      rw [show (g.1 != g.1) = false by simp, cond_false]
      rw [show ((2 * i : Nat) : Int) + 1 = ((2 * i + 1 : Nat) : Int) by omega]
      refine SlN_int k6 hv2 fun a ha => ?_
      simp -zeta only [LdV_some, dec_int, ha]
      rw [show (g.2 != g.2) = false by simp]
      exact hJ
    · rintro W ⟨h0, h1, h2, h3, h4, h5, h6, h7⟩ hm
      have hm := hm rfl
      have hmlt := (Array.getElem?_eq_some_iff.1 hm).1
      rw [show (yG gs).length = gs.length by simp [yG]] at h3
      intro J
      simp -zeta only [Ld_eq, List.getElem?_cons_zero, LdV_some, dec_slice, dec_int, h3.cell, h2.cell]
      rw [wrap_i64 (by omega) (by omega), show (2 * (gs.length : Int) == (rs.len : Int)) = true by rw [hrl]; simp, cond_true]
      refine cm_law15_awake (awake15_ok W) ?_
      rintro r W2 ⟨rfl, g2⟩
      refine St_row (h1.ext g2) rfl (by simp) fun W3 r3 g3 z3 => ?_
      simp only [List.set_cons_zero] at r3
      simp only [J]
      refine ⟨?_, ?_⟩
      · rw [← hm, ← (g2 fun _ => False).same w10.heap.size hmlt (by simp)]
        exact (g3 (· = q) rfl).same _ (by have := g2.size; omega) (by omega)
      · have fp := Fr8.putDef W3 w10.heap.size (.deferred none)
        have q1 := r3.fr fp (by omega)
        simp only [Ld_eq, List.getElem?_cons_zero, LdV_some, dec_bool, q1.cell]
        exact ⟨by trivial, ((h7.trans g2).new (g3 (· = q) rfl) fun y hy e => by omega).new fp fun y hy e => by omega⟩
    · exact fun W hJ => hJ.elim
    · exact fun id W hJ => hJ.elim

end Go.Proofs

/- Parts of a datagram: bytes that are cut, and parts that no call made. -/
namespace Go.Proofs
open Gp Gp.Hol
set_option maxRecDepth 100000

/-! ### Nobody -/
theorem bt0 {a : Int} : (a == a) = true := by simp

theorem add_nil {w : World} {off : Int} {more : Bool} {d : SliceV} : c_holes_Holes_Add none off more d w fun r w' => r = 2 ∧ w' = w := by
  apply ok_holes_Holes_Add
  unfold s_holes_Holes_Add
  refine cm_holes_Holes_ready ready_nil ?_
  rintro r w' ⟨rfl, hw⟩
  subst hw
  rw [Bool.not_false, cond_true]
  exact ⟨rfl, rfl⟩

theorem bytes_nil {w : World} : c_holes_Holes_Bytes none w fun r w' => r = 0 ∧ w' = w := by
  apply ok_holes_Holes_Bytes
  unfold s_holes_Holes_Bytes
  refine cm_holes_Holes_ready ready_nil ?_
  rintro r w' ⟨rfl, hw⟩
  subst hw
  rw [Bool.not_false, cond_true]
  exact ⟨rfl, rfl⟩

theorem room_nil {w : World} {off : Int} {d : SliceV} : c_holes_Holes_Room none off d w fun r w' => r = 0 ∧ w' = w := by
  apply ok_holes_Holes_Room
  unfold s_holes_Holes_Room
  intro J
  refine cm_holes_Holes_ready ready_nil ?_
  rintro r w' ⟨rfl, hw⟩
  subst hw
  rw [Bool.not_false, cond_true]
  exact ⟨rfl, rfl⟩

theorem done_nil {w : World} : c_holes_Holes_Done none w fun r ok w' => ok = false ∧ Ext w w' := by
  apply ok_holes_Holes_Done
  unfold s_holes_Holes_Done
  refine Al_e fun a w1 ra ea z1 f1 => Al_e fun b w2 rb eb z2 f2 => ?_
  have ra := ra.ext f2
  have f := f1.trans f2
  intro J
  refine cm_holes_Holes_ready ready_nil ?_
  rintro r w0 ⟨rfl, hw⟩
  have hw := hw.symm
  subst hw
  rw [Bool.not_false, cond_true]
  simp only [J, cond_true]
  refine St_row ra rfl (by simp) fun w3 ra3 g3 z3 => ?_
  simp only [List.set_cons_zero] at ra3
  have rb3 := rb.fr (g3 (· = a) rfl) (by omega)
  refine St_row rb3 rfl (by simp) fun w4 rb4 g4 z4 => ?_
  simp only [List.set_cons_zero] at rb4
  have ra4 := ra3.fr (g4 (· = b) rfl) (by omega)
  simp only [Ld_eq, List.getElem?_cons_zero, LdV_some, dec_slice, dec_bool, ra4.cell, rb4.cell]
  exact ⟨by trivial, f.new (S := fun x => x = a ∨ x = b) ((g3 _ (.inl rfl)).trans (g4 _ (.inr rfl)) fun _ _ e => e) (by intro x hx e; rcases e with rfl | rfl <;> omega)⟩

theorem gaps_nil_iter {f0 : Nat} : IterFn2 Try.prog [.one (.int .i64), .one (.int .i64)] (Value.func (.func n_holes_Holes_Gaps_1) #[] #[.pointer (some ⟨f0, 0, none⟩)]) (fun W => Row W f0 [.pointer none]) [] := by
  refine ⟨by kernel_rfl, fun y w Q D hC hQ hD hy h0 => ?_⟩
  refine Calls.mono (ok_holes_Holes_Gaps_1 (a0 := .func (.yield y) #[] #[]) (f0 := ⟨f0, 0, none⟩) (K := fun w' => Q 0 w' ∨ D w') ?_) (fun e w' h => h)
  unfold s_holes_Holes_Gaps_1
  have r0 := hC _ _ h0
  simp -zeta only [Ld_eq, List.getElem?_cons_zero, LdV_some, dec_ptr, r0.cell]
  refine cm_holes_Holes_ready ready_nil ?_
  rintro r w0 ⟨rfl, hw⟩
  have hw := hw.symm
  subst hw
  rw [Bool.not_false, cond_true]
  exact .inl h0

theorem nobody15_ok {w : World} {off : Int} {more : Bool} {d : SliceV} : c_law15_HolesNobody off more d w fun r w' => r = true ∧ Ext w w' := by
  apply ok_law15_HolesNobody
  unfold s_law15_HolesNobody
  refine Al_e fun q w1 rq eq z1 f1 => ?_
  refine cm_law15_awake (awake15_ok w1) ?_
  rintro r w2 ⟨rfl, f2⟩
  rw [Bool.not_true, cond_false]
  refine cm_holes_Holes_Done done_nil ?_
  rintro r ok w3 ⟨rfl, f3⟩
  refine cm_holes_Holes_Gaps (ok_holes_Holes_Gaps (K := fun v w' => (∃ f0, v = Value.func (.func n_holes_Holes_Gaps_1) #[] #[.pointer (some ⟨f0, 0, none⟩)] ∧ Row w' f0 [.pointer none]) ∧ Ext w3 w') (by
    unfold s_holes_Holes_Gaps
    exact ⟨rfl, Al_e fun a w4 ra ea z4 f4 => ⟨⟨a, rfl, ra⟩, f4⟩⟩)) ?_
  rintro v w4 ⟨⟨f0, rfl, rf⟩, f4⟩
  have e4 := ((f1.trans f2).trans f3).trans f4
  have rq4 := ((rq.ext f2).ext f3).ext f4
  have zq := rq4.lt
  have zf := rf.lt
  have zw := e4.size
  have lq : lAt none w4 = w4.heap.size + 1 := rfl
  refine rng_iter2 gaps_nil_iter (fun i W => i = 0 ∧ Row W q [.bool false] ∧ Row W f0 [.pointer none] ∧ Ext w W) (fun _ _ => False) (by simp) ?_ ?_ ?_ ?_ ?_ ?_ ?_ ?_ ?_
  · exact fun W hx _ => ⟨rfl, rq4.ext hx, rf.ext hx, e4.trans hx⟩
  · exact fun i W hI => hI.2.2.1
  · rintro i W W' ⟨h0, h1, h2, h3⟩ hf
    rw [lq] at hf
    exact ⟨h0, h1.fr hf (by omega), h2.fr hf (by omega), h3.new hf fun y hy e => by omega⟩
  · exact fun e W W' hJ => hJ.elim
  · exact fun e W hJ => hJ.elim
  · rintro i y W Kb hy
    simp at hy
  · rintro W ⟨_, h1, h2, h3⟩ hm
    have hm := hm rfl
    have hmlt := (Array.getElem?_eq_some_iff.1 hm).1
    intro J
    refine cm_holes_Holes_Add add_nil ?_
    rintro r w0 ⟨rfl, hw⟩
    have hw := hw.symm
    subst hw
    rw [bt0, cond_true, Bool.not_false, cond_true]
    refine cm_holes_Holes_Bytes bytes_nil ?_
    rintro r w0 ⟨rfl, hw⟩
    have hw := hw.symm
    subst hw
    rw [bt0, cond_true]
    refine cm_holes_Holes_Room room_nil ?_
    rintro r w0 ⟨rfl, hw⟩
    have hw := hw.symm
    subst hw
    rw [bt0, cond_true]
    refine cm_law15_awake (awake15_ok W) ?_
    rintro r W2 ⟨rfl, g2⟩
    refine St_row (h1.ext g2) rfl (by simp) fun W3 r3 g3 z3 => ?_
    simp only [List.set_cons_zero] at r3
    simp only [J]
    refine ⟨?_, ?_⟩
    · rw [← hm, ← (g2 fun _ => False).same w4.heap.size hmlt (by simp)]
      exact (g3 (· = q) rfl).same _ (by have := g2.size; omega) (by omega)
    · have fp := Fr8.putDef W3 w4.heap.size (.deferred none)
      have q1 := r3.fr fp (by omega)
      simp only [Ld_eq, List.getElem?_cons_zero, LdV_some, dec_bool, q1.cell]
      exact ⟨by trivial, ((h3.trans g2).new (g3 (· = q) rfl) fun y hy e => by omega).new fp fun y hy e => by omega⟩
  · exact fun W hJ => hJ.elim
  · exact fun id W hJ => hJ.elim

end Go.Proofs

/- Parts of a datagram: bytes that are cut anywhere. -/
namespace Go.Proofs
open Gp Gp.Hol
set_option maxRecDepth 100000

/-- Two tables apart. -/
structure Two (n0 : Nat) (w : World) (h : Nat) (s : SliceV) (xs : List P3) (l : List Pc) (h' : Nat) (s' : SliceV) (xs' : List P3) (l' : List Pc) : Prop where
  H : HAt w h s xs l (lastE l)
  G : Gp.Hol.Good l
  srt : l.Pairwise le
  H' : HAt w h' s' xs' l' (lastE l')
  G' : Gp.Hol.Good l'
  srt' : l'.Pairwise le
  n1 : n0 ≤ h
  n2 : n0 ≤ h'
  n3 : ∀ b, SliceV.at s b → n0 ≤ b
  n4 : ∀ b, SliceV.at s' b → n0 ≤ b
  hh : h ≠ h'
  a1 : ¬ SliceV.at s h'
  a2 : ¬ SliceV.at s' h
  a3 : ∀ b, SliceV.at s b → ¬ SliceV.at s' b
  f1 : FreeP xs fun b => b = h' ∨ SliceV.at s' b
  f2 : FreeP xs' fun b => b = h ∨ SliceV.at s b

theorem Two.sym {n0 : Nat} {w : World} {h : Nat} {s : SliceV} {xs : List P3} {l : List Pc} {h' : Nat} {s' : SliceV} {xs' : List P3} {l' : List Pc} (T : Two n0 w h s xs l h' s' xs' l') : Two n0 w h' s' xs' l' h s xs l :=
  ⟨T.H', T.G', T.srt', T.H, T.G, T.srt, T.n2, T.n1, T.n4, T.n3, fun e => T.hh e.symm, T.a2, T.a1, fun b h1 h2 => T.a3 b h2 h1, T.f2, T.f1⟩

theorem Two.ext {n0 : Nat} {w w1 : World} {h : Nat} {s : SliceV} {xs : List P3} {l : List Pc} {h' : Nat} {s' : SliceV} {xs' : List P3} {l' : List Pc} (T : Two n0 w h s xs l h' s' xs' l') (hf : Ext w w1) : Two n0 w1 h s xs l h' s' xs' l' :=
  ⟨T.H.ext hf, T.G, T.srt, T.H'.ext hf, T.G', T.srt', T.n1, T.n2, T.n3, T.n4, T.hh, T.a1, T.a2, T.a3, T.f1, T.f2⟩

/-- A part of those that are cut is put into the first. -/
theorem two_add {n0 : Nat} {w : World} {h : Nat} {s : SliceV} {xs : List P3} {l : List Pc} {h' : Nat} {s' : SliceV} {xs' : List P3} {l' : List Pc} (T : Two n0 w h s xs l h' s' xs' l') {L L2 : List Pc} (hp : l.Perm L) (hl : L.length ≤ 2 ^ 19)
    {off : Int} {more : Bool} {d : SliceV} {b : List UInt8} (hd : SlB w d b) (hb : b.length ≤ 2 ^ 40) (ha : add L (off, more, b) = (0, L2)) :
    c_holes_Holes_Add (some ⟨h, 0, none⟩) off more d w fun r w' => r = 0 ∧ ∃ s2 xs2 l2, Two n0 w' h s2 xs2 l2 h' s' xs' l' ∧ l2.Perm L2 ∧ Fr8 w w' (fun c => c = h ∨ SliceV.at s c) ∧ ∀ c, SliceV.at s2 c → SliceV.at s c ∨ w.heap.size ≤ c := by
  have hlp := hp.length_eq
  refine cm_holes_Holes_Add (add_ok T.H T.G T.srt (by omega) hd hb) ?_
  rintro r w1 ⟨rfl, s2, xs2, l2, H2, p2, o2, g2, n2, m2⟩
  obtain ⟨q1, q2⟩ := add_perm T.G hp (off, more, b)
  rw [ha] at q1 q2
  simp only at q1 q2
  refine ⟨q1, s2, xs2, l2, ?_, p2.trans q2, g2, n2⟩
  have k1 := T.H.row.lt
  have k2 := T.H'.row.lt
  refine ⟨H2, (T.G.add' _).perm p2.symm, o2, ?_, T.G', T.srt', T.n1, T.n2, ?_, T.n4, T.hh, ?_, T.a2, ?_, ?_, ?_⟩
  · exact T.H'.fr g2 (fun e => e.elim (fun e => T.hh e.symm) T.a1) (fun c hc e => e.elim (fun e => T.a2 (e ▸ hc)) fun e => T.a3 c e hc) T.f2
  · intro c hc
    rcases n2 c hc with h | h
    · exact T.n3 c h
    · have := T.n1; omega
  · intro hc
    rcases n2 _ hc with h | h
    · exact T.a1 h
    · omega
  · intro c hc hc'
    rcases n2 _ hc with h | h
    · exact T.a3 c h hc'
    · have := T.H'.buf.lt hc'; omega
  · intro y hy a hya h0 e
    rcases m2 y hy with hh | hh
    · exact T.f1 y hh a hya h0 e
    · have := hh a hya
      rcases e with e | e
      · omega
      · have := T.H'.buf.lt e; omega
  · intro y hy a hya h0 e
    have hlt := dlt T.H'.pcs hy hya h0
    rcases e with e | e
    · exact T.f2 y hy a hya h0 (.inl e)
    · rcases n2 _ e with hc | hc
      · exact T.f2 y hy a hya h0 (.inr hc)
      · omega

/-- What a table gives that has all parts. -/
theorem whole_ok {w : World} {h : Nat} {s : SliceV} {xs : List P3} {l L : List Pc} (H : HAt w h s xs l (lastE l)) (G : Gp.Hol.Good l) (hs : l.Pairwise le) (hp : l.Perm L) (hl : L.length ≤ 2 ^ 19) {b : List UInt8}
    (h1 : lastE L = (b.length : Int)) (h2 : sum L = (b.length : Int)) (h3 : ∀ p ∈ L, ∀ k, k < p.2.2.length → b[p.1.toNat + k]? = p.2.2[k]?) :
    c_holes_Holes_Done (some ⟨h, 0, none⟩) w fun r ok w' => ok = true ∧ SlB w' r b ∧ Ext w w' := by
  have hlp := hp.length_eq
  have e1 := lastE_perm G.one hp
  have e2 := sum_perm hp
  have h0 : 0 ≤ lastE l := by rw [e1, h1]; omega
  have hc := cat_eq G hs h0 (by rw [e2, h2, e1, h1]) (by rw [e1, h1]) fun p hm => h3 p (hp.mem_iff.1 hm)
  have hg := (done_iff G hs h0).2 (by rw [e2, h2, e1, h1])
  refine cm_holes_Holes_Done (done_ok H G (by omega)) ?_
  rintro r ok w' ⟨hd, hf⟩
  rcases hd with ⟨rfl, _, _, hr⟩ | ⟨_, hbad, _⟩
  · exact ⟨rfl, hc ▸ hr, hf⟩
  · rcases hbad with h | h
    · omega
    · exact absurd hg h

theorem PcsAt.snoc {w : World} {xs : List P3} {l : List Pc} (h : PcsAt w xs l) {x : P3} {p : Pc} (hx : PcAt w x p) : PcsAt w (xs ++ [x]) (l ++ [p]) := by
  have := h.ins (Nat.le_refl _) hx
  rw [List.take_length, List.drop_length, h.len, List.take_length, List.drop_length] at this
  exact this

/-- The parts' bytes are older than n. -/
def OldP (xs : List P3) (n : Nat) : Prop := ∀ x ∈ xs, ∀ a, x.2.2.1.a = some a → 0 < x.2.2.1.len → a.block < n

theorem order_law {w : World} {s0 s1 : SliceV} {b cs : List UInt8} (hb : SlB w s0 b) (hc : SlB w s1 cs) : c_law15_HolesOrder s0 s1 w fun r w' => r = true ∧ Ext w w' := by
  apply ok_law15_HolesOrder
  unfold s_law15_HolesOrder
  refine cm_law15_awake (awake15_ok w) ?_
  rintro r w1 ⟨rfl, f1⟩
  rw [Bool.not_true, cond_false]
  have hbl := hb.1
  have hcl := hc.1
  intro J
  have hT : J true := by
    simp only [J, cond_true]
    refine cm_law15_awake (awake15_ok w1) ?_
    rintro r w2 ⟨rfl, f2⟩
    exact ⟨rfl, f1.trans f2⟩
  have hF : b.length ≤ 2000 → cs.length ≤ 40 → J false := by
    intro hb2 hc2
    clear hT
    simp -zeta only [J, cond_false]
    intro J2
    have hJ2 : ∀ (s : SliceV) (n : Nat) W ys l, Ext w W → BufN 3 eP W s ys → PcsAt W ys l → (∀ c, SliceV.at s c → w.heap.size ≤ c) → Cut b n l → l.length ≤ 40 → OldP ys w.heap.size → J2 s (n : Int) W := by
      intro s n W ys l hW hbuf hpc hat hcut hl40 hold
      simp -zeta only [J2]
      have hle := hcut.le
      have hsb := hb.ext hW
      -- the last part
      refine SubSl_bytes hsb (by omega) (by omega) (by omega) fun d hd hda => ?_
      rw [Int.toNat_natCast, Int.toNat_natCast, List.take_of_length_le (by omega)] at hd
      refine Al_e fun v W1 rv ev zv fv => ?_
      have hd1 := hd.ext fv
      have hv : SlN 3 eP W1 ⟨some ⟨v, 0, none⟩, 1, 1⟩ [((n : Int), false, d, ())] := (BufN.row (xs := [(((n : Int), false, d, ()) : P3)]) (f := eP) (n := 3) rv).sl eP_len (by omega)
      have hyl := hpc.len
      refine AppSl_bufN eP_len (hbuf.ext fv) hv rfl (by omega) eP_one (by simp only [List.length_singleton]; omega) (by simp only [List.length_singleton]; omega) fun t W2 hbt g2 hatt => ?_
      have hW1 := hW.trans fv
      have hW2 : Ext w W2 := hW1.new g2 fun c hc hc' => by have := hat c hc'; omega
      have hd2 : SlB W2 d (b.drop n) := hd1.fr g2 fun a ha h0 hc => by
        obtain ⟨a0, ha0, hbk⟩ := hda a ha
        have h1 := hb.lt ha0 (by rw [List.length_drop] at h0; omega)
        have h2 := hat _ hc
        omega
      have hpc2 : PcsAt W2 (ys ++ [((n : Int), false, d, ())]) (Gp.Hol.allOf b n l) := by
        refine PcsAt.snoc ((hpc.ext fv).fr g2 fun y hy a ha h0 hc => ?_) ⟨rfl, rfl, hd2⟩
        have h1 := hold y hy a ha h0
        have h2 := hat _ hc
        omega
      have hsl2 := hbt.sl eP_len (by omega)
      obtain ⟨c1, c2, c3, c4, c5⟩ := hcut.all (by omega)
      have hall : (Gp.Hol.allOf b n l).length ≤ 41 := by unfold Gp.Hol.allOf; simp only [List.length_append, List.length_singleton]; omega
      have hlt2 := hpc2.len
      have htl := hsl2.len
      generalize hal : Gp.Hol.allOf b n l = al at *
      generalize ys ++ [((n : Int), false, d, ())] = ya at *
      refine cm_holes_New (new_ok W2) ?_
      rintro u1 W3 ⟨h1, rfl, e1, z3, H1, g3⟩
      refine cm_holes_New (new_ok W3) ?_
      rintro u2 W4 ⟨h2, rfl, e2, z4, H2, g4⟩
      have T : Two W2.heap.size W4 h1 ⟨none, 0, 0⟩ [] [] h2 ⟨none, 0, 0⟩ [] [] := ⟨H1.ext g4, Gp.Hol.Good.nil, List.Pairwise.nil, H2, Gp.Hol.Good.nil, List.Pairwise.nil, by omega, by omega, fun c hc => (no_at hc).elim, fun c hc => (no_at hc).elim, by omega, fun hc => no_at hc, fun hc => no_at hc, fun c hc => (no_at hc).elim, no_free _, no_free _⟩
      refine LoopP_inv (fun st W' => ∃ j : Nat, j ≤ al.length ∧ st.1 = (j : Int) ∧ Ext W2 W' ∧ ∃ t1 xs1 l1 t2 xs2 l2, Two W2.heap.size W' h1 t1 xs1 l1 h2 t2 xs2 l2 ∧ l1.Perm (al.take j) ∧ l2.Perm (al.reverse.take j)) (fun st _ => (al.length - st.1).toNat)
        ⟨0, by omega, rfl, g3.trans g4, _, _, _, _, _, _, T, by simp, by simp⟩ ?_
      clear T H1 H2
      rintro ⟨i, ⟨⟩⟩ W5 ⟨j, hj, hi, hx, t1, xs1, l1, t2, xs2, l2, T, p1, p2⟩ next hnext
      simp only at hi
      subst hi
      have kz1 := T.H.row.lt
      have kz2 := T.H'.row.lt
      by_cases hlt : (j : Int) < (t.len : Int)
      · rw [decide_eq_true hlt, cond_true]
        have hja : j < al.length := by omega
        have hra : al.length - 1 - j < al.length := by omega
        -- a part of the list
        have hpart : ∀ (k : Nat) (Wk : World), k < al.length → Ext W2 Wk → ∀ K : Addr → Prop, (∀ (a : Addr) (y0 : Int) (y1 : Bool) (y2 : SliceV) (p2 : List UInt8), al[k]? = some (y0, y1, p2) → (∀ W', Ext W2 W' → SlB W' y2 p2) → Wk.cell? a = some (.int .i64 y0) → Wk.cell? (a.add 1) = some (.bool y1) → Wk.cell? (a.add 2) = some (.slice y2.a y2.len y2.cap) → K a) → AtIx t 3 (k : Int) K := by
          intro k Wk hk hxk K hK
          have hxj := List.getElem?_eq_getElem (show k < ya.length by omega)
          generalize ya[k] = y at hxj
          obtain ⟨p, hp, q1, q2, q3⟩ := hpc2.get hxj
          obtain ⟨y0, y1, y2, ⟨⟩⟩ := y
          obtain ⟨p0, pp1, pp2⟩ := p
          simp only at q1 q2 q3
          subst q1 q2
          refine SlN_ix eP_len (by omega) (hsl2.ext hxk) (by omega) (by rw [Int.toNat_natCast]; exact hxj) fun a' hc => ?_
          exact hK a' y0 y1 y2 pp2 hp (fun W' hW' => q3.ext hW') (hc 0 _ rfl) (hc 1 _ rfl) (hc 2 _ rfl)
        rw [wrap_i64 (n := (t.len : Int) - 1) (by omega) (by omega), wrap_i64 (n := (t.len : Int) - 1 - (j : Int)) (by omega) (by omega), show (t.len : Int) - 1 - (j : Int) = ((al.length - 1 - j : Nat) : Int) by omega]
        refine hpart _ W5 hra hx _ fun a y0 y1 y2 pb hy hyb d0 d1 d2 => ?_
        simp -zeta only [Ld_eq, LdV_some, dec_slice, dec_int, dec_bool, add0, d0, d1, d2]
        refine Al_f rfl rfl fun u W6 ru eu zu fu => ?_
        have hx6 := hx.trans fu
        intro J3
        have hJ3 : ∀ W' t1 xs1 l1 t2 xs2 l2, Ext W2 W' → Two W2.heap.size W' h1 t1 xs1 l1 h2 t2 xs2 l2 → l1.Perm (al.take (j + 1)) → l2.Perm (al.reverse.take (j + 1)) → J3 false W' := by
          intro W' t1 xs1 l1 t2 xs2 l2 k1 k2 k3 k4
          simp only [J3, cond_false]
          rw [wrap_i64 (by omega) (by omega)]
          exact hnext _ _ ⟨j + 1, by omega, by simp, k1, _, _, _, _, _, _, k2, k3, k4⟩ (by simp only; omega)
        clear_value J3
        have hxD := hx6.trans (Ext.drew W6)
        have TD := (T.ext fu).ext (Ext.drew W6)
        have ruD := ru.drew
        refine hpart _ W6.drew hja hxD _ fun a z0 z1 z2 qb hz hzb b0 b1 b2 => ?_
        simp -zeta only [LdV_some, dec_int, add_mk, Nat.zero_add, b0]
        refine hpart _ W6.drew hja hxD _ fun a z0' z1' z2' qb' hz' hzb' b0' b1' b2' => ?_
        rw [hz] at hz'
        cases hz'
        simp -zeta only [LdV_some, dec_bool, b1']
        refine hpart _ W6.drew hja hxD _ fun a z0'' z1'' z2'' qb'' hz'' hzb'' b0'' b1'' b2'' => ?_
        rw [hz] at hz''
        cases hz''
        simp -zeta only [LdV_some, dec_slice, b2'']
        have hts : al.take (j + 1) = al.take j ++ [(z0, z1, qb)] := Gp.Hol.take_snoc' hz
        have hmz := c2 _ (List.mem_of_getElem? hz)
        have hrev : al.reverse[j]? = some (y0, y1, pb) := by rw [List.getElem?_reverse hja]; exact hy
        have htr : al.reverse.take (j + 1) = al.reverse.take j ++ [(y0, y1, pb)] := Gp.Hol.take_snoc' hrev
        have hmy := c2 _ (List.mem_of_getElem? hy)
        have hGr : Gp.Hol.Good al.reverse := c1.perm (List.reverse_perm al).symm
        have hblen : ∀ p ∈ al, p.2.2.length ≤ 2 ^ 40 := fun p hp => by have := (c1.ok p hp).2.1; have := (c1.ok p hp).1; unfold pend at *; omega
        refine cm_holes_Holes_Add (two_add TD (L2 := al.take (j + 1)) p1 (by rw [List.length_take]; omega) (hzb'' _ hxD) (hblen _ (List.mem_of_getElem? hz)) (by rw [hts]; exact add_fresh (hts ▸ c1.sub (List.take_sublist _ _)) hmz)) ?_
        rintro r W7 ⟨rfl, t3, xs3, l3, T3, p3, g7, n7⟩
        have hx7 := hxD.new g7 fun c hc e => by
          rcases e with rfl | e
          · have := T.n1; omega
          · have := T.n3 _ e; omega
        have hu1 : ¬ (u = h1 ∨ SliceV.at t1 u) := fun e => by
          rcases e with e | e
          · omega
          · have := T.H.buf.lt e; omega
        have hu2 : ¬ (u = h2 ∨ SliceV.at t2 u) := fun e => by
          rcases e with e | e
          · omega
          · have := T.H'.buf.lt e; omega
        have ru7 := ruD.fr g7 hu1
        rw [show ((0 : Int) != 0) = false from rfl, cond_false]
        simp -zeta only [List.getElem?_cons_zero, List.getElem?_cons_succ, LdV_some, dec_slice, dec_int, dec_bool, ru7.cell]
        have hyb7 : SlB W7 y2 pb := hyb W7 hx7
        refine cm_holes_Holes_Add (two_add T3.sym (L2 := al.reverse.take (j + 1)) p2 (by rw [List.length_take, List.length_reverse]; omega) hyb7 (hblen _ (List.mem_of_getElem? hy)) (by rw [htr]; exact add_fresh (htr ▸ hGr.sub (List.take_sublist _ _)) hmy)) ?_
        rintro r W8 ⟨rfl, t4, xs4, l4, T4, p4, g8, n8⟩
        have T4 := T4.sym
        have hx8 := hx7.new g8 fun c hc e => by
          rcases e with rfl | e
          · have := T.n2; omega
          · have := T.n4 _ e; omega
        have ru8 := ru7.fr g8 hu2
        rw [show ((0 : Int) != 0) = false from rfl, cond_false]
        simp -zeta only [List.getElem?_cons_zero, List.getElem?_cons_succ, LdV_some, dec_slice, dec_int, dec_bool, ru8.cell]
        have hyb8 : SlB W8 y2 pb := hyb W8 hx8
        refine cm_holes_Holes_Add (two_add T4.sym (L2 := al.reverse.take (j + 1)) p4 (by rw [List.length_take, List.length_reverse]; omega) hyb8 (hblen _ (List.mem_of_getElem? hy)) (add_again (by rw [htr]; simp) hmy)) ?_
        rintro r W9 ⟨rfl, t5, xs5, l5, T5, p5, g9, n9⟩
        have hx9 := hx8.new g9 fun c hc e => by
          rcases e with rfl | e
          · have := T.n2; omega
          · have := T4.n4 _ e; omega
        exact hJ3 _ _ _ _ _ _ _ hx9 T5.sym p3 p5
      · rw [decide_eq_false hlt, cond_false]
        have hje : j = al.length := by omega
        subst hje
        rw [List.take_length] at p1
        rw [← List.length_reverse, List.take_length] at p2
        have p2 := p2.trans (List.reverse_perm al)
        refine cm_holes_Holes_Done (whole_ok T.H T.G T.srt p1 (by omega) c3 c4 c5) ?_
        rintro r ok W6 ⟨rfl, q1, g6⟩
        have T6 := T.ext g6
        refine cm_holes_Holes_Done (whole_ok T6.H' T6.G' T6.srt' p2 (by omega) c3 c4 c5) ?_
        rintro r' ok W7 ⟨rfl, q2, g7⟩
        have q1 := q1.ext g7
        have hx7 := (hW2.trans hx).trans (g6.trans g7)
        intro J3
        rw [cond_true, cond_true]
        refine cm_bytes_Equal (equal_ok q1 (hb.ext hx7)) ?_
        rintro r w0 ⟨rfl, hw⟩
        have hw := hw.symm
        subst hw
        rw [decide_eq_true rfl, cond_true]
        refine cm_bytes_Equal (equal_ok q2 (hb.ext hx7)) ?_
        rintro r w0 ⟨rfl, hw⟩
        have hw := hw.symm
        subst hw
        rw [decide_eq_true rfl, cond_true]
        refine cm_law15_awake (awake15_ok W7) ?_
        rintro r W8 ⟨rfl, g8⟩
        exact ⟨rfl, hx7.trans g8⟩
    clear_value J2
    refine LoopP_inv (fun st W => ∃ (j n : Nat) (ys : List P3) (l : List Pc), j ≤ cs.length ∧ st.2.2.1 = (j : Int) ∧ st.2.1 = (n : Int) ∧ Ext w W ∧ BufN 3 eP W st.1 ys ∧ PcsAt W ys l ∧ (∀ c, SliceV.at st.1 c → w.heap.size ≤ c) ∧ Cut b n l ∧ l.length ≤ j ∧ OldP ys w.heap.size) (fun st _ => (cs.length - st.2.2.1).toNat)
      ⟨0, 0, [], [], by omega, rfl, rfl, f1, BufN.nil, no_pcs _, fun c hc => (no_at hc).elim, Cut.nil b, by simp, fun x hx => by cases hx⟩ ?_
    rintro ⟨s, at_, i, ⟨⟩⟩ W ⟨j, n, ys, l, hj, hi, hn, hW, hbuf, hpc, hat, hcut, hll, hold⟩ next hnext
    simp only at hi hn hbuf hat
    subst hi hn
    by_cases hlt : (j : Int) < (s1.len : Int)
    · rw [decide_eq_true hlt, cond_true]
      have hcj := List.getElem?_eq_getElem (show j < cs.length by omega)
      generalize cs[j] = cc at hcj
      refine SlB_ix (hc.ext hW) hcj fun a ha => ?_
      simp only [Ld_eq, LdV_some, dec_int, ha]
      refine ⟨by decide, ?_⟩
      have hcc : cc.toNat < 256 := cc.toNat_lt
      have hle := hcut.le
      obtain ⟨m, hm⟩ : ∃ m : Nat, m = 8 * (1 + cc.toNat % 20) := ⟨_, rfl⟩
      have hm1 : 0 < m := by omega
      have hm2 : m % 8 = 0 := by omega
      have hm3 : m ≤ 160 := by omega
      have hexp : IntKind.i64.wrap ((n : Int) + IntKind.i64.wrap (8 * IntKind.i64.wrap (1 + Int.tmod (IntKind.i64.wrap (cc.toNat : Int)) 20))) = ((n + m : Nat) : Int) := by
        rw [wrap_i64 (n := (cc.toNat : Int)) (by omega) (by omega), Int.tmod_eq_emod_of_nonneg (by omega), wrap_i64 (n := 1 + _) (by omega) (by omega), wrap_i64 (n := 8 * _) (by omega) (by omega), wrap_i64 (by omega) (by omega)]
        omega
      rw [hexp]
      by_cases hge : ((n + m : Nat) : Int) ≥ (s0.len : Int)
      · rw [decide_eq_true hge, cond_true]
        exact hJ2 s n W ys l hW hbuf hpc hat hcut (by omega) hold
      rw [decide_eq_false hge, cond_false]
      refine SubSl_bytes (hb.ext hW) (by omega) (by omega) (by omega) fun d hd hda => ?_
      rw [Int.toNat_natCast, Int.toNat_natCast] at hd
      refine Al_e fun v W1 rv ev zv fv => ?_
      have hd1 := hd.ext fv
      have hv : SlN 3 eP W1 ⟨some ⟨v, 0, none⟩, 1, 1⟩ [((n : Int), true, d, ())] := (BufN.row (xs := [(((n : Int), true, d, ()) : P3)]) (f := eP) (n := 3) rv).sl eP_len (by omega)
      have hyl := hpc.len
      refine AppSl_bufN eP_len (hbuf.ext fv) hv rfl (by omega) eP_one (by simp only [List.length_singleton]; omega) (by simp only [List.length_singleton]; omega) fun t W2 hbt g2 hatt => ?_
      have hW1 := hW.trans fv
      have hW2 : Ext w W2 := hW1.new g2 fun c hc hc' => by have := hat c hc'; omega
      have hdold : ∀ a, d.a = some a → 0 < d.len → a.block < w.heap.size := fun a ha h0 => by
        obtain ⟨a0, ha0, hbk⟩ := hda a ha
        rw [hbk]
        exact hb.lt ha0 (by omega)
      have hd2 : SlB W2 d ((b.take (n + m)).drop n) := hd1.fr g2 fun a ha h0 hc => by
        have h1 := hdold a ha (by rw [hd.1]; exact h0)
        have h2 := hat _ hc
        omega
      have hpc2 : PcsAt W2 (ys ++ [((n : Int), true, d, ())]) (l ++ [((n : Int), true, (b.take (n + m)).drop n)]) := by
        refine PcsAt.snoc ((hpc.ext fv).fr g2 fun y hy a ha h0 hc => ?_) ⟨rfl, rfl, hd2⟩
        have h1 := hold y hy a ha h0
        have h2 := hat _ hc
        omega
      rw [wrap_i64 (by omega) (by omega)]
      refine hnext _ _ ⟨j + 1, n + m, _, _, by omega, by simp, rfl, hW2, hbt, hpc2, fun c hc => ?_, hcut.step (by omega) hm1 hm2 (by omega), by simp only [List.length_append, List.length_singleton]; omega, fun y hy a ha h0 => ?_⟩ (by simp only; omega)
      · rcases hatt c hc with h | h
        · exact hat c h
        · have := hW1.size; omega
      · rcases List.mem_append.1 hy with hy | hy
        · exact hold y hy a ha h0
        · rw [List.mem_singleton.1 hy] at ha h0
          exact hdold a ha h0
    · rw [decide_eq_false hlt, cond_false]
      exact hJ2 s n W ys l hW hbuf hpc hat hcut (by omega) hold
  clear_value J
  by_cases h1 : (s0.len : Int) > 2000
  · rw [decide_eq_true h1, cond_true]; exact hT
  rw [decide_eq_false h1, cond_false]
  by_cases h2 : (s1.len : Int) > 40
  · rw [decide_eq_true h2]; exact hT
  · rw [decide_eq_false h2]; exact hF (by omega) (by omega)

end Go.Proofs
