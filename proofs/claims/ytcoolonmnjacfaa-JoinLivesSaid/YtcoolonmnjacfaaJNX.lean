import Derived.Test.YtcoolonmnjacfaaJN9
import Derived.Test.YtcoolonmnjacfaaJN8
import Derived.Test.YtcoolonmnjacfaaJN11
/- The document's table in memory: reading, and what is taken out. -/
namespace Go.Proofs
open Gp Gp.Hol Gp.Jn
set_option maxRecDepth 100000
set_option maxHeartbeats 2000000

/-- A buffer of the document: what it is, and where its parts are. -/
abbrev DE := (Key × Bf) × SliceV × List P3
abbrev eB (e : DE) : List Value := [.string e.1.1, .int .i64 e.1.2.since, .slice e.2.1.a e.2.1.len e.2.1.cap, .string e.1.2.head, .bool e.1.2.begun]
theorem eB_len (e : DE) : (eB e).length = 5 := rfl
theorem eB_one (e : DE) : ∀ v ∈ eB e, isOne v = true := by
  have h : (eB e).all isOne = true := rfl
  exact List.all_eq_true.1 h

def dpR (e : DE) (z : Nat) : Prop := SliceV.at e.2.1 z ∨ ∃ y ∈ e.2.2, ∃ a : Addr, y.2.2.1.a = some a ∧ 0 < y.2.2.1.len ∧ a.block = z
def dtab (es : List DE) : JT := es.map (·.1)

/-- A buffer's parts. -/
structure PAt (w : World) (e : DE) : Prop where
  buf : BufN 3 eP w e.2.1 e.2.2
  pcs : PcsAt w e.2.2 e.1.2.L
  G : Gp.Hol.Good e.1.2.L
theorem PAt.fr {w w' : World} {e : DE} {S : Nat → Prop} (h : PAt w e) (hf : Fr8 w w' S) (hs : ∀ z, dpR e z → ¬ S z) : PAt w' e :=
  ⟨h.buf.fr hf fun b hb => hs b (.inl hb), h.pcs.fr hf fun x hx a ha h0 => hs _ (.inr ⟨x, hx, a, ha, h0, rfl⟩), h.G⟩
theorem PAt.ext {w w' : World} {e : DE} (h : PAt w e) (hf : Ext w w') : PAt w' e := h.fr (hf fun _ => False) fun _ _ => by simp
theorem PAt.lt {w : World} {e : DE} (h : PAt w e) {z : Nat} (hz : dpR e z) : z < w.heap.size := by
  rcases hz with hz | ⟨x, hx, a, ha, h0, rfl⟩
  · exact h.buf.lt hz
  · exact dlt h.pcs hx ha h0

/-- The document's table. -/
structure DAt (w : World) (x : Nat) (tb : SliceV) (many bytes wait : Int) (es : List DE) : Prop where
  row : Row w x [.slice tb.a tb.len tb.cap, .int .i64 many, .int .i64 bytes, .int .i64 wait]
  buf : BufN 5 eB w tb es
  pc : ∀ e ∈ es, PAt w e
  nx : ¬ SliceV.at tb x
  ap : ∀ e ∈ es, ∀ z, dpR e z → z ≠ x ∧ ¬ SliceV.at tb z

section
variable {w w' : World} {x : Nat} {tb : SliceV} {many bytes wait : Int} {es : List DE}

theorem DAt.fr {S : Nat → Prop} (h : DAt w x tb many bytes wait es) (hf : Fr8 w w' S) (h1 : ¬ S x) (h2 : ∀ b, SliceV.at tb b → ¬ S b) (h3 : ∀ e ∈ es, ∀ z, dpR e z → ¬ S z) : DAt w' x tb many bytes wait es :=
  ⟨h.row.fr hf h1, h.buf.fr hf h2, fun e he => (h.pc e he).fr hf (h3 e he), h.nx, h.ap⟩
theorem DAt.ext (h : DAt w x tb many bytes wait es) (hf : Ext w w') : DAt w' x tb many bytes wait es := h.fr (hf fun _ => False) (by simp) (fun _ _ => by simp) (fun _ _ _ _ => by simp)
theorem DAt.sl (h : DAt w x tb many bytes wait es) : SlN 5 eB w tb es := h.buf.sl eB_len (by omega)

/-- The block of the buffers. -/
theorem DAt.blk (h : DAt w x tb many bytes wait es) {k : Nat} {e : DE} (hk : es[k]? = some e) : ∃ b pad, tb.a = some ⟨b, 0, none⟩ ∧ Row w b (es.flatMap eB ++ pad) := by
  rcases h.buf.mem with ⟨_, h1, _⟩ | ⟨b, pad, h1, _, h3⟩
  · rw [h1] at hk; simp at hk
  · exact ⟨b, pad, h1, h3⟩

theorem flat_at {es : List DE} {pad : List Value} {k j : Nat} {e : DE} (hk : es[k]? = some e) (hj : j < 5) : (es.flatMap eB ++ pad)[k * 5 + j]? = (eB e)[j]? := by
  have hlt := (List.getElem?_eq_some_iff.1 hk).1
  rw [List.getElem?_append_left (by rw [flat_len eB 5 eB_len]; omega), flat_get eB 5 eB_len _ _ _ hj, hk]
  rfl

theorem DAt.q (h : DAt w x tb many bytes wait es) {k : Nat} {e : DE} (hk : es[k]? = some e) {b : Nat} {pad : List Value} (hb : tb.a = some ⟨b, 0, none⟩) (hr : Row w b (es.flatMap eB ++ pad)) : QAt w b (k * 5 + 2) (es.flatMap eB ++ pad) e.2.1 e.2.2 e.1.2.L := by
  have hm := List.mem_of_getElem? hk
  have hp := h.pc e hm
  have hat : SliceV.at tb b := ⟨0, hb⟩
  refine ⟨hr, flat_at hk (by omega), hp.buf, hp.pcs, fun z hz e' => (h.ap e hm z (.inl hz)).2 (e' ▸ hat), fun y hy a ha h0 e' => (h.ap e hm _ (.inr ⟨y, hy, a, ha, h0, rfl⟩)).2 (e' ▸ hat)⟩

theorem DAt.hg (h : DAt w x tb many bytes wait es) {k : Nat} {e : DE} (hk : es[k]? = some e) : ∀ p ∈ e.1.2.L, 0 ≤ p.1 ∧ pend p ≤ 65535 := fun p hp => by
  have := (h.pc e (List.mem_of_getElem? hk)).G.ok p hp
  exact ⟨this.1, this.2.1⟩

theorem dtab_len (es : List DE) : (dtab es).length = es.length := List.length_map _

theorem jsum_take {l : JT} (j : Nat) : jsum (l.take j) ≤ jsum l := by
  have h : jsum l = jsum (l.take j) + jsum (l.drop j) := by
    unfold jsum
    conv => lhs; rw [← List.take_append_drop j l]
    rw [List.map_append, List.sum_append]
  have h2 : ∀ l : JT, 0 ≤ jsum l := fun l => by
    induction l with
    | nil => exact Int.le_refl _
    | cons y l ih => rw [jsum_cons]; have := sum_nonneg y.2.L; omega
  have := h2 (l.drop j)
  omega

theorem jsum_snoc (l : JT) (y : Key × Bf) : jsum (l ++ [y]) = jsum l + Gp.Hol.sum y.2.L := by
  unfold jsum; simp

theorem jsum_nn (l : JT) : 0 ≤ jsum l := by
  have := jsum_take (l := l) 0
  simpa [jsum] using this

theorem dbytes_ok (h : DAt w x tb many bytes wait es) (hl : jsum (dtab es) ≤ 2 ^ 40) (hN : ∀ e ∈ es, e.1.2.L.length ≤ 2 ^ 30) (hn : es.length ≤ 2 ^ 30) : c_ref16_Table_Bytes (some ⟨x, 0, none⟩) w fun r w' => r = jsum (dtab es) ∧ w' = w := by
  apply ok_ref16_Table_Bytes
  unfold s_ref16_Table_Bytes
  have hlen := h.buf.len
  refine LoopP_inv (fun st W => ∃ j : Nat, j ≤ es.length ∧ st.2.1 = (j : Int) ∧ W = w ∧ st.1 = jsum (dtab (es.take j))) (fun st _ => (es.length - st.2.1).toNat) ⟨0, by omega, rfl, rfl, rfl⟩ ?_
  rintro ⟨n, i, ⟨⟩⟩ W ⟨j, hj, hi, rfl, hm⟩ next hnext
  simp only at hi hm
  subst hi hm
  simp -zeta only [ex_some, Ld_eq, List.getElem?_cons_zero, LdV_some, dec_slice, h.row.cell]
  by_cases hlt : (j : Int) < (tb.len : Int)
  · rw [decide_eq_true hlt, cond_true]
    have hx := List.getElem?_eq_getElem (show j < es.length by omega)
    generalize es[j] = e at hx
    obtain ⟨b, pad, hb, hr⟩ := h.blk hx
    refine AtIx_row hb (by omega) hlt ?_
    simp -zeta only [add_mk, Nat.zero_add, Int.toNat_natCast]
    refine cm_ref15_Holes_Bytes (qbytes_ok (h.q hx hb hr) (hN e (List.mem_of_getElem? hx)) (h.hg hx)) ?_
    rintro r w2 ⟨rfl, hw⟩
    subst hw
    have e1 : jsum (dtab (es.take (j + 1))) = jsum (dtab (es.take j)) + Gp.Hol.sum e.1.2.L := by
      rw [List.take_add_one, hx]
      unfold dtab
      rw [List.map_append]
      exact jsum_snoc _ _
    have e2 : jsum (dtab (es.take (j + 1))) ≤ jsum (dtab es) := by
      unfold dtab
      rw [List.map_take]
      exact jsum_take _
    have e3 := jsum_nn (dtab (es.take j))
    have e4 := sum_nonneg e.1.2.L
    rw [wrap_i64 (n := jsum _ + _) (by omega) (by omega), wrap_i64 (by omega) (by omega)]
    exact hnext _ _ ⟨j + 1, by omega, by simp, rfl, e1.symm⟩ (by simp only; omega)
  · rw [decide_eq_false hlt, cond_false]
    rw [List.take_of_length_le (by omega)]
    exact ⟨by trivial, by trivial⟩

theorem dfind_ok (h : DAt w x tb many bytes wait es) (hn : es.length ≤ 2 ^ 30) (key : Key) : c_ref16_Table_find (some ⟨x, 0, none⟩) key w fun r w' => w' = w ∧ ((∃ (k : Nat) (e : DE), es[k]? = some e ∧ e.1.1 = key ∧ r = (k : Int) ∧ ∀ (i : Nat) (e' : DE), i < k → es[i]? = some e' → e'.1.1 ≠ key) ∨ (r = -1 ∧ ∀ e ∈ es, e.1.1 ≠ key)) := by
  apply ok_ref16_Table_find
  unfold s_ref16_Table_find
  have hlen := h.buf.len
  refine LoopP_inv (fun st W => ∃ j : Nat, j ≤ es.length ∧ st.1 = (j : Int) ∧ W = w ∧ ∀ (i : Nat) (e' : DE), i < j → es[i]? = some e' → e'.1.1 ≠ key) (fun st _ => (es.length - st.1).toNat) ⟨0, by omega, rfl, rfl, fun i e h => by omega⟩ ?_
  rintro ⟨i, ⟨⟩⟩ W ⟨j, hj, hi, rfl, hm⟩ next hnext
  simp only at hi
  subst hi
  simp -zeta only [ex_some, Ld_eq, List.getElem?_cons_zero, LdV_some, dec_slice, h.row.cell]
  by_cases hlt : (j : Int) < (tb.len : Int)
  · rw [decide_eq_true hlt, cond_true]
    have hx := List.getElem?_eq_getElem (show j < es.length by omega)
    generalize es[j] = e at hx
    obtain ⟨b, pad, hb, hr⟩ := h.blk hx
    refine AtIx_row hb (by omega) hlt ?_
    have hc : W.cell? ⟨b, j * 5, none⟩ = some (.string e.1.1) := by
      rw [hr.cell]; exact flat_at (j := 0) hx (by omega)
    simp -zeta only [LdV_some, dec_str, Nat.zero_add, Int.toNat_natCast, hc]
    rw [strEqS]
    by_cases hk : e.1.1 = key
    · rw [decide_eq_true hk, cond_true]
      exact ⟨by trivial, .inl ⟨j, e, hx, hk, rfl, hm⟩⟩
    · rw [decide_eq_false hk, cond_false]
      rw [wrap_i64 (by omega) (by omega)]
      refine hnext _ _ ⟨j + 1, by omega, by simp, rfl, fun i e' hi he' => ?_⟩ (by simp only; omega)
      rcases Nat.lt_or_ge i j with g | g
      · exact hm i e' g he'
      · have : i = j := by omega
        subst this
        rw [hx] at he'
        cases he'
        exact hk
  · rw [decide_eq_false hlt, cond_false]
    refine ⟨by trivial, .inr ⟨by trivial, fun e he => ?_⟩⟩
    obtain ⟨i, hi⟩ := List.getElem?_of_mem he
    have := (List.getElem?_eq_some_iff.1 hi).1
    exact hm i e (by omega) hi

theorem dwithout_ok (h : DAt w x tb many bytes wait es) (hn : es.length ≤ 2 ^ 30) {k : Nat} (hk : k < es.length) :
    c_ref16_Table_without (some ⟨x, 0, none⟩) (k : Int) w fun w' => ∃ tb', DAt w' x tb' many bytes wait (es.eraseIdx k) ∧ Fr8 w w' (· = x) ∧ ∀ b, SliceV.at tb' b → w.heap.size ≤ b := by
  apply ok_ref16_Table_without
  unfold s_ref16_Table_without
  have hlen := h.buf.len
  have hxl := h.row.lt
  have hd := h.ext (Ext.drew w)
  have zd : w.drew.heap.size = w.heap.size := rfl
  simp -zeta only [ex_some, Ld_eq, List.getElem?_cons_zero, LdV_some, dec_slice, hd.row.cell]
  refine SubSl_N eB_len hd.sl (by omega) (by omega) (by omega) fun s5 h5 => ?_
  rw [wrap_i64 (by omega) (by omega)]
  refine SubSl_N eB_len hd.sl (by omega) (by omega) (by omega) fun s8 h8 => ?_
  have e5 : (es.take ((k : Int)).toNat).drop ((0 : Int)).toNat = es.take k := by simp
  have e8 : (es.take ((tb.len : Int)).toNat).drop ((k : Int) + 1).toNat = es.drop (k + 1) := by
    rw [hlen, Int.toNat_natCast, List.take_length]
    congr 1
  rw [e5] at h5
  rw [e8] at h8
  have hle : (es.take k).length + (es.drop (k + 1)).length ≤ es.length := by rw [List.length_take, List.length_drop]; omega
  refine AppSl_bufN eB_len BufN.nil h5 rfl (by omega) eB_one (by rw [List.length_nil]; omega) (by rw [List.length_nil]; omega) fun s9 w10 b9 f9 a9 => ?_
  have f9 : Ext w.drew w10 := f9.new (by rintro c hc ⟨o, e⟩; cases e)
  have z9 := f9.size
  have h10 := hd.ext f9
  rw [List.nil_append] at b9
  have n9 : ∀ b, SliceV.at s9 b → w.heap.size ≤ b := fun b hb => by
    rcases a9 b hb with g | g
    · exact (no_at g).elim
    · omega
  simp -zeta only [true_and, List.getElem?_cons_zero, h10.row.cell]
  refine AppSl_bufN eB_len b9 (h8.ext f9) rfl (by omega) eB_one (by omega) (by omega) fun s11 w12 b11 f11 a11 => ?_
  have f12 : Ext w w12 := ((Ext.drew w).trans f9).new f11 fun b hb e => by have := n9 b e; omega
  have n11 : ∀ b, SliceV.at s11 b → w.heap.size ≤ b := fun b hb => by
    rcases a11 b hb with g | g
    · exact n9 b g
    · omega
  rw [← List.eraseIdx_eq_take_drop_succ] at b11
  refine St_row (h.row.ext f12) rfl (by simp) fun w14 r14 f14 z14 => ?_
  simp only [List.set_cons_zero] at r14
  have hsub : (es.eraseIdx k).Sublist es := List.eraseIdx_sublist ..
  refine ⟨s11, ⟨r14, b11.fr (f14 (· = x) rfl) fun b hb e => by have := n11 b hb; omega, fun e he => ((h.pc e (hsub.subset he)).ext f12).fr (f14 (· = x) rfl) fun z hz => (h.ap e (hsub.subset he) z hz).1, fun hz => by have := n11 x hz; omega, fun e he z hz => ⟨(h.ap e (hsub.subset he) z hz).1, fun hz' => ?_⟩⟩, f12.fr (f14 (· = x) rfl), n11⟩
  have := n11 z hz'
  have := (h.pc e (hsub.subset he)).lt hz
  omega
end
end Go.Proofs

/- The document's keys in their order, and time that passes. -/
namespace Go.Proofs
open Gp Gp.Hol Gp.Jn
set_option maxRecDepth 100000
set_option maxHeartbeats 2000000

theorem tw_split {α : Type} {p : α → Bool} : ∀ {l : List α} {j : Nat}, (∀ y ∈ l.take j, p y = true) → (∀ y, l[j]? = some y → p y = false) → l.takeWhile p = l.take j ∧ l.dropWhile p = l.drop j
  | [], _, _, _ => by simp
  | y :: l, 0, _, h => by
    have := h y rfl
    rw [List.takeWhile_cons_of_neg (by simp [this]), List.dropWhile_cons_of_neg (by simp [this])]
    exact ⟨rfl, rfl⟩
  | y :: l, j + 1, h1, h2 => by
    rw [List.take_succ_cons] at h1
    have hy := h1 y (List.mem_cons_self ..)
    rw [List.takeWhile_cons_of_pos hy, List.dropWhile_cons_of_pos hy, List.take_succ_cons, List.drop_succ_cons]
    obtain ⟨a, b⟩ := tw_split (l := l) (j := j) (fun z hz => h1 z (List.mem_cons_of_mem _ hz)) fun z hz => h2 z (by rw [List.getElem?_cons_succ]; exact hz)
    exact ⟨by rw [a], b⟩

theorem sl_key {w : World} {s : SliceV} {xs : List Key} (h : SlN 1 eK w s xs) {j : Nat} {k : Key} (hk : xs[j]? = some k) {K : Addr → Prop} (hK : ∀ a, w.cell? a = some (.string k) → K a) : AtIx s 1 (j : Int) K := by
  refine SlN_ix eK_len (by omega) h (by omega) (by rw [Int.toNat_natCast]; exact hk) fun a hc => hK a ?_
  have := hc 0 _ rfl
  rwa [add0] at this

theorem insert_key {w : World} {s : SliceV} {xs : List Key} (hs : SlN 1 eK w s xs) (hl : xs.length ≤ 2 ^ 29) (key : Key) : c_ref16_insert s key w fun r w' => BufN 1 eK w' r (insK xs key) ∧ Ext w w' ∧ ∀ b, SliceV.at r b → w.heap.size ≤ b := by
  apply ok_ref16_insert
  unfold s_ref16_insert
  have hlen := hs.len
  refine LoopP_inv (fun st W => ∃ j : Nat, j ≤ xs.length ∧ st.1 = (j : Int) ∧ W = w ∧ ∀ y ∈ xs.take j, strLt y key = true) (fun st _ => (xs.length - st.1).toNat) ⟨0, by omega, rfl, rfl, fun y hy => by simp at hy⟩ ?_
  rintro ⟨i, ⟨⟩⟩ W ⟨j, hj, hi, rfl, hm⟩ next hnext
  simp only at hi
  subst hi
  intro J
  have hT : ∀ y, xs[j]? = some y → strLt y key = true → J true := by
    intro y hy hlt
    simp -zeta only [J, cond_true]
    have := (List.getElem?_eq_some_iff.1 hy).1
    rw [wrap_i64 (by omega) (by omega)]
    refine hnext _ _ ⟨j + 1, by omega, by simp, rfl, fun z hz => ?_⟩ (by simp only; omega)
    rw [List.take_add_one, hy] at hz
    rcases List.mem_append.1 hz with hz | hz
    · exact hm z hz
    · simp at hz; rw [hz]; exact hlt
  have hF : (∀ y, xs[j]? = some y → strLt y key = false) → J false := by
    intro hno
    obtain ⟨t1, t2⟩ := tw_split hm hno
    have hin : insK xs key = (xs.take j ++ [key]) ++ xs.drop j := by unfold insK; rw [t1, t2]; simp
    simp only [J, cond_false]
    refine SubSl_N eK_len hs (by omega) (by omega) (by omega) fun s11 h11 => ?_
    refine SubSl_N eK_len hs (by omega) (by omega) (by omega) fun s12 h12 => ?_
    have e5 : (xs.take ((j : Int)).toNat).drop ((0 : Int)).toNat = xs.take j := by simp
    have e8 : (xs.take ((s.len : Int)).toNat).drop ((j : Int)).toNat = xs.drop j := by
      rw [hlen, Int.toNat_natCast, Int.toNat_natCast, List.take_length]
    rw [e5] at h11
    rw [e8] at h12
    have hle : (xs.take j).length ≤ xs.length := by rw [List.length_take]; omega
    have hle2 : (xs.drop j).length ≤ xs.length := by rw [List.length_drop]; omega
    have h11 := h11.ext (Ext.drew W)
    have h12 := h12.ext (Ext.drew W)
    have zd : W.drew.heap.size = W.heap.size := rfl
    refine ⟨?_, ?_⟩
    · refine AppSl_bufN eK_len BufN.nil h11 rfl (by omega) eK_one (by rw [List.length_nil]; omega) (by rw [List.length_nil]; omega) fun s13 w14 b13 f13 a13 => ?_
      have f13 : Ext W.drew w14 := f13.new (by rintro c hc ⟨o, e⟩; cases e)
      have z13 := f13.size
      rw [List.nil_append] at b13
      have n13 : ∀ b, SliceV.at s13 b → W.heap.size ≤ b := fun b hb => by
        rcases a13 b hb with g | g
        · exact (no_at g).elim
        · omega
      refine app_key b13 key (by omega) fun s17 w18 b17 f17 a17 => ?_
      have e18 : Ext W.drew w18 := f13.new f17 fun b hb e => by have := n13 b e; omega
      have z18 := e18.size
      have n17 : ∀ b, SliceV.at s17 b → W.heap.size ≤ b := fun b hb => by
        rcases a17 b hb with g | g
        · exact n13 b g
        · omega
      refine AppSl_bufN eK_len b17 (h12.ext e18) rfl (by omega) eK_one (by rw [List.length_append, List.length_singleton]; omega) (by rw [List.length_append, List.length_singleton]; omega) fun s19 w20 b19 f19 a19 => ?_
      rw [hin]
      refine ⟨b19, ((Ext.drew W).trans e18).new f19 fun b hb e => by have := n17 b e; omega, fun b hb => ?_⟩
      rcases a19 b hb with g | g
      · exact n17 b g
      · omega
    · refine Al_e fun u w21 ru eu zu fu => ?_
      have z21 := fu.size
      refine AppSl_bufN eK_len BufN.nil (h11.ext fu) rfl (by omega) eK_one (by rw [List.length_nil]; omega) (by rw [List.length_nil]; omega) fun s13 w14 b13 f13 a13 => ?_
      have f13 : Ext w21 w14 := f13.new (by rintro c hc ⟨o, e⟩; cases e)
      have e14 := fu.trans f13
      have z13 := e14.size
      rw [List.nil_append] at b13
      have n13 : ∀ b, SliceV.at s13 b → W.heap.size ≤ b := fun b hb => by
        rcases a13 b hb with g | g
        · exact (no_at g).elim
        · omega
      have ht : SlN 1 eK w14 ⟨some ⟨u, 0, none⟩, 1, 1⟩ [key] := ((BufN.row (xs := [key]) (f := eK) (n := 1) ru).sl eK_len (by omega)).ext f13
      refine AppSl_bufN eK_len b13 ht rfl (by omega) eK_one (by rw [List.length_singleton]; omega) (by rw [List.length_singleton]; omega) fun s17 w18 b17 f17 a17 => ?_
      have e18 : Ext W.drew w18 := e14.new f17 fun b hb e => by have := n13 b e; omega
      have z18 := e18.size
      have n17 : ∀ b, SliceV.at s17 b → W.heap.size ≤ b := fun b hb => by
        rcases a17 b hb with g | g
        · exact n13 b g
        · omega
      refine AppSl_bufN eK_len b17 (h12.ext e18) rfl (by omega) eK_one (by rw [List.length_append, List.length_singleton]; omega) (by rw [List.length_append, List.length_singleton]; omega) fun s19 w20 b19 f19 a19 => ?_
      rw [hin]
      refine ⟨b19, ((Ext.drew W).trans e18).new f19 fun b hb e => by have := n17 b e; omega, fun b hb => ?_⟩
      rcases a19 b hb with g | g
      · exact n17 b g
      · omega
  clear_value J
  by_cases hlt : (j : Int) < (s.len : Int)
  · rw [decide_eq_true hlt, cond_true]
    have hx := List.getElem?_eq_getElem (show j < xs.length by omega)
    generalize xs[j] = y at hx
    refine sl_key hs hx fun a hc => ?_
    simp -zeta only [Ld_eq, LdV_some, dec_str, hc]
    cases hs : strLt y key with
    | true => exact hT y hx hs
    | false => exact hF fun z hz => by rw [hx] at hz; cases hz; exact hs
  · rw [decide_eq_false hlt, cond_false]
    exact hF fun z hz => by have := (List.getElem?_eq_some_iff.1 hz).1; omega

theorem eqk_ok {w : World} {s t : SliceV} {xs ys : List Key} (hs : SlN 1 eK w s xs) (ht : SlN 1 eK w t ys) (hl : xs.length ≤ 2 ^ 30) : c_slices_Equal_string_string s t w fun r w' => r = decide (xs = ys) ∧ Ext w w' := by
  apply ok_slices_Equal_string_string
  unfold s_slices_Equal_string_string
  have h1 := hs.len
  have h2 := ht.len
  by_cases hne : xs.length = ys.length
  case neg =>
    rw [show ((s.len : Int) != (t.len : Int)) = true by simp; omega, cond_true]
    exact ⟨(decide_eq_false fun e => hne (by rw [e])).symm, Ext.refl _⟩
  rw [show ((s.len : Int) != (t.len : Int)) = false by simp; omega, cond_false]
  refine LoopP_inv (fun st W => ∃ j : Nat, j ≤ xs.length ∧ st.1 = (j : Int) ∧ Ext w W ∧ xs.take j = ys.take j) (fun st _ => (xs.length - st.1).toNat) ⟨0, by omega, rfl, Ext.refl _, rfl⟩ ?_
  rintro ⟨i, ⟨⟩⟩ W ⟨j, hj, hi, hw, hm⟩ next hnext
  simp only at hi
  subst hi
  by_cases hlt : (j : Int) < (s.len : Int)
  · rw [decide_eq_true hlt, cond_true]
    have hx := List.getElem?_eq_getElem (show j < xs.length by omega)
    have hy := List.getElem?_eq_getElem (show j < ys.length by omega)
    generalize xs[j] = a at hx
    generalize ys[j] = b at hy
    have hwd := hw.trans (Ext.drew W)
    refine sl_key (hs.ext hwd) hx fun p hc => ?_
    simp -zeta only [Ld_eq, LdV_some, dec_str, hc]
    refine sl_key (ht.ext hwd) hy fun q hd => ?_
    simp -zeta only [LdV_some, dec_str, hd]
    rw [strEqS]
    by_cases hab : a = b
    · rw [decide_eq_true hab, Bool.not_true, cond_false, wrap_i64 (by omega) (by omega)]
      exact hnext _ _ ⟨j + 1, by omega, by simp, hwd, by rw [List.take_add_one, List.take_add_one, hx, hy, hm, hab]⟩ (by simp only; omega)
    · rw [decide_eq_false hab, Bool.not_false, cond_true]
      exact ⟨(decide_eq_false fun e => hab (by rw [e, hy] at hx; exact (Option.some.inj hx).symm)).symm, hwd⟩
  · rw [decide_eq_false hlt, cond_false]
    rw [List.take_of_length_le (by omega), List.take_of_length_le (by omega)] at hm
    exact ⟨(decide_eq_true hm).symm, hw⟩

section
variable {w w' : World} {x : Nat} {tb : SliceV} {many bytes wait : Int} {es : List DE}

theorem dkeys_ok (h : DAt w x tb many bytes wait es) (hn : es.length ≤ 2 ^ 29) : c_ref16_Table_Keys (some ⟨x, 0, none⟩) w fun r w' => BufN 1 eK w' r (jkeys (dtab es)) ∧ Ext w w' := by
  apply ok_ref16_Table_Keys
  unfold s_ref16_Table_Keys
  have hlen := h.buf.len
  refine LoopP_inv (fun st W => ∃ j : Nat, j ≤ es.length ∧ st.2.1 = (j : Int) ∧ Ext w W ∧ BufN 1 eK W st.1 (sortK ((dtab (es.take j)).map (·.1)))) (fun st _ => (es.length - st.2.1).toNat) ⟨0, by omega, rfl, Ext.refl _, BufN.nil⟩ ?_
  rintro ⟨o, i, ⟨⟩⟩ W ⟨j, hj, hi, hw, hm⟩ next hnext
  simp only at hi hm
  subst hi
  have hW := h.ext hw
  simp -zeta only [ex_some, Ld_eq, List.getElem?_cons_zero, LdV_some, dec_slice, hW.row.cell]
  by_cases hlt : (j : Int) < (tb.len : Int)
  · rw [decide_eq_true hlt, cond_true]
    have hx := List.getElem?_eq_getElem (show j < es.length by omega)
    generalize es[j] = e at hx
    obtain ⟨b, pad, hb, hr⟩ := hW.blk hx
    refine AtIx_row hb (by omega) hlt ?_
    have hc : W.cell? ⟨b, j * 5, none⟩ = some (.string e.1.1) := by
      rw [hr.cell]; exact flat_at (j := 0) hx (by omega)
    simp -zeta only [LdV_some, dec_str, Nat.zero_add, Int.toNat_natCast, hc]
    have hlk : (sortK ((dtab (es.take j)).map (·.1))).length ≤ es.length := by
      rw [(sortK_ok _).2.length_eq, List.length_map, dtab_len, List.length_take]; omega
    refine cm_ref16_insert (insert_key (hm.sl eK_len (by omega)) (by omega) _) ?_
    rintro r w2 ⟨hb2, f2, _⟩
    rw [wrap_i64 (by omega) (by omega)]
    refine hnext _ _ ⟨j + 1, by omega, by simp, hw.trans f2, ?_⟩ (by simp only; omega)
    rw [← sortK_snoc] at hb2
    rw [List.take_add_one, hx]
    unfold dtab at hb2 ⊢
    rw [List.map_append, List.map_append]
    exact hb2
  · rw [decide_eq_false hlt, cond_false]
    rw [List.take_of_length_le (by omega)] at hm
    exact ⟨hm, hw⟩

/-- A buffer is put behind the others. -/
theorem app_ent {w : World} {s : SliceV} {xs : List DE} (h : BufN 5 eB w s xs) (e : DE) (hl : xs.length ≤ 2 ^ 30) {K : SliceV → World → Prop}
    (hK : ∀ s' w', BufN 5 eB w' s' (xs ++ [e]) → Fr8 w w' (SliceV.at s) → (∀ b, SliceV.at s' b → SliceV.at s b ∨ w.heap.size ≤ b) → K s' w') :
    Al w (.cells ⟨eB e⟩ 68) fun a w1 => AppSl 68 5 72 [(Value.string (bs [])), (Value.int .i64 0), (Value.slice none 0 0), (Value.string (bs [])), (Value.bool false)] s ⟨(some a), 1, 1⟩ w1 K := by
  refine Al_e fun b w1 r1 e1 z1 f1 => ?_
  have ht : SlN 5 eB w1 ⟨some ⟨b, 0, none⟩, 1, 1⟩ [e] := (BufN.row (xs := [e]) (f := eB) (n := 5) r1).sl eB_len (by omega)
  refine AppSl_bufN eB_len (h.ext f1) ht rfl (by omega) eB_one (by simp only [List.length_singleton]; omega) (by simp only [List.length_singleton]; omega) fun s' w' h1 h2 h3 => hK s' w' h1 (f1.fr h2) fun c hc => (h3 c hc).imp id fun g => ?_
  have := f1.size
  omega

def ovD (wait now : Int) (e : DE) : Bool := decide (wait ≤ now) && decide (e.1.2.since ≤ now - wait)

theorem dexpire_pure (wait now : Int) (es : List DE) : (jexpire wait now (dtab es)).1 = sortK ((dtab (es.filter (ovD wait now))).map (·.1)) ∧ (jexpire wait now (dtab es)).2 = dtab (es.filter fun e => !ovD wait now e) := by
  unfold jexpire ovD
  by_cases h : now < wait
  · rw [if_pos h, decide_eq_false (by omega)]
    have h1 : (es.filter fun e : DE => false && decide (e.1.2.since ≤ now - wait)) = [] := List.filter_eq_nil_iff.2 fun _ _ => by simp
    have h2 : (es.filter fun e : DE => !(false && decide (e.1.2.since ≤ now - wait))) = es := List.filter_eq_self.2 fun _ _ => by simp
    rw [h1, h2]
    exact ⟨rfl, rfl⟩
  · rw [if_neg h, decide_eq_true (by omega)]
    simp only [Bool.true_and]
    unfold dtab
    rw [List.filter_map, List.filter_map]
    exact ⟨rfl, rfl⟩

theorem dexpire_ok (h : DAt w x tb many bytes wait es) (hn : es.length ≤ 2 ^ 29) (hw1 : 1 ≤ wait) {now : Int} (hnow : now ≤ 9223372036854775807) :
    c_ref16_Table_Expire (some ⟨x, 0, none⟩) now w fun r w' => BufN 1 eK w' r (jexpire wait now (dtab es)).1 ∧ ∃ tb' es', DAt w' x tb' many bytes wait es' ∧ dtab es' = (jexpire wait now (dtab es)).2 ∧ es'.Sublist es ∧ Fr8 w w' (· = x) ∧ ∀ b, SliceV.at tb' b → w.heap.size ≤ b := by
  obtain ⟨p1, p2⟩ := dexpire_pure wait now es
  rw [p1, p2]
  apply ok_ref16_Table_Expire
  unfold s_ref16_Table_Expire
  have hlen := h.buf.len
  have hxl := h.row.lt
  refine LoopP_inv (fun st W => ∃ j : Nat, j ≤ es.length ∧ st.2.2.1 = (j : Int) ∧ Ext w W ∧ BufN 1 eK W st.1 (sortK ((dtab ((es.take j).filter (ovD wait now))).map (·.1))) ∧ BufN 5 eB W st.2.1 ((es.take j).filter fun e => !ovD wait now e) ∧ (∀ b, SliceV.at st.1 b → w.heap.size ≤ b ∧ ¬ SliceV.at st.2.1 b) ∧ ∀ b, SliceV.at st.2.1 b → w.heap.size ≤ b) (fun st _ => (es.length - st.2.2.1).toNat)
    ⟨0, by omega, rfl, Ext.refl _, BufN.nil, BufN.nil, fun b hb => (no_at hb).elim, fun b hb => (no_at hb).elim⟩ ?_
  rintro ⟨o, lf, i, ⟨⟩⟩ W ⟨j, hj, hi, hw, hbo, hbl, no, nl⟩ next hnext
  simp only at hi hbo hbl no nl
  subst hi
  have hW := h.ext hw
  simp -zeta only [ex_some, Ld_eq, List.getElem?_cons_zero, LdV_some, dec_slice, add_mk, Nat.zero_add, hW.row.cell]
  by_cases hlt : (j : Int) < (tb.len : Int)
  · rw [decide_eq_true hlt, cond_true]
    have hx := List.getElem?_eq_getElem (show j < es.length by omega)
    generalize es[j] = e at hx
    have hwd := hw.trans (Ext.drew W)
    have hD := h.ext hwd
    have zs := hwd.size
    obtain ⟨b, pad, hb, hr⟩ := hD.blk hx
    have hc : ∀ i v, i < 5 → (eB e)[i]? = some v → W.drew.cell? ⟨b, j * 5 + i, none⟩ = some v := fun i v hi hv => by
      rw [hr.cell, flat_at hx hi]; exact hv
    have c0 : W.drew.cell? ⟨b, j * 5, none⟩ = some (.string e.1.1) := hc 0 _ (by omega) rfl
    have c1 : W.drew.cell? ⟨b, j * 5 + 1, none⟩ = some (.int .i64 e.1.2.since) := hc 1 _ (by omega) rfl
    have c2 : W.drew.cell? ⟨b, j * 5 + 2, none⟩ = some (.slice e.2.1.a e.2.1.len e.2.1.cap) := hc 2 _ (by omega) rfl
    have c3 : W.drew.cell? ⟨b, j * 5 + 3, none⟩ = some (.string e.1.2.head) := hc 3 _ (by omega) rfl
    have c4 : W.drew.cell? ⟨b, j * 5 + 4, none⟩ = some (.bool e.1.2.begun) := hc 4 _ (by omega) rfl
    have hlf := List.length_filter_le (fun e => !ovD wait now e) (es.take j)
    have hlo := List.length_filter_le (ovD wait now) (es.take j)
    have hlt' : (es.take j).length ≤ es.length := by rw [List.length_take]; omega
    intro J8
    have hJ8 : ∀ o' lf' W', Ext w W' → BufN 1 eK W' o' (sortK ((dtab ((es.take (j + 1)).filter (ovD wait now))).map (·.1))) → BufN 5 eB W' lf' ((es.take (j + 1)).filter fun e => !ovD wait now e) → (∀ b, SliceV.at o' b → w.heap.size ≤ b ∧ ¬ SliceV.at lf' b) → (∀ b, SliceV.at lf' b → w.heap.size ≤ b) → J8 o' lf' W' := by
      intro o' lf' W' g1 g2 g3 g4 g5
      simp -zeta only [J8]
      rw [wrap_i64 (by omega) (by omega)]
      exact hnext _ _ ⟨j + 1, by omega, by simp, g1, g2, g3, g4, g5⟩ (by simp only; omega)
    clear_value J8
    have htk : es.take (j + 1) = es.take j ++ [e] := by rw [List.take_add_one, hx]; rfl
    rw [htk, List.filter_append, List.filter_append] at hJ8
    intro J12
    have hT : ovD wait now e = true → J12 true W.drew := by
      intro ho
      simp -zeta only [J12, cond_true]
      simp -zeta only [List.getElem?_cons_zero, LdV_some, dec_slice, hD.row.cell]
      refine AtIx_row hb (by omega) hlt ?_
      simp -zeta only [LdV_some, dec_str, Nat.zero_add, Int.toNat_natCast, c0]
      have hlk : (sortK ((dtab ((es.take j).filter (ovD wait now))).map (·.1))).length ≤ es.length := by
        rw [(sortK_ok _).2.length_eq, List.length_map, dtab_len]; omega
      refine cm_ref16_insert (insert_key ((hbo.ext (Ext.drew W)).sl eK_len (by omega)) (by omega) _) ?_
      rintro r w2 ⟨hb2, f2, n2⟩
      rw [← sortK_snoc] at hb2
      rw [List.filter_cons_of_pos ho, List.filter_nil, List.filter_cons_of_neg (by rw [ho]; simp), List.filter_nil, List.append_nil] at hJ8
      unfold dtab at hJ8 hb2
      rw [List.map_append, List.map_append] at hJ8
      exact hJ8 _ _ _ (hwd.trans f2) hb2 ((hbl.ext (Ext.drew W)).ext f2) (fun b hb => ⟨by have := n2 b hb; omega, fun hb' => by have := n2 b hb; have := hbl.lt hb'; have zd : W.drew.heap.size = W.heap.size := rfl; omega⟩) nl
    have hF : ovD wait now e = false → J12 false W.drew := by
      intro ho
      simp -zeta only [J12, cond_false]
      simp -zeta only [List.getElem?_cons_zero, LdV_some, dec_slice, hD.row.cell]
      refine AtIx_row hb (by omega) hlt ?_
      simp -zeta only [LdV_some, dec_slice, dec_int, dec_bool, dec_str, add_mk, Nat.zero_add, Nat.add_zero, Int.toNat_natCast, c0, c1, c2, c3, c4]
      refine app_ent (hbl.ext (Ext.drew W)) e (by omega) fun s' w2 h1 h2 h3 => ?_
      rw [List.filter_cons_of_neg (by rw [ho]; simp), List.filter_nil, List.append_nil, List.filter_cons_of_pos (by rw [ho]; rfl), List.filter_nil] at hJ8
      have e2 : Ext w w2 := hwd.new h2 fun b hb e => by have := nl b e; omega
      refine hJ8 _ _ _ e2 ((hbo.ext (Ext.drew W)).fr h2 fun b hb => (no b hb).2) h1 (fun b hb => ⟨(no b hb).1, fun hb' => ?_⟩) fun b hb => ?_
      · rcases h3 b hb' with g | g
        · exact (no b hb).2 g
        · have := hbo.lt hb
          have zd : W.drew.heap.size = W.heap.size := rfl
          omega
      · rcases h3 b hb with g | g
        · exact nl b g
        · omega
    clear_value J12
    simp -zeta only [List.getElem?_cons_zero, List.getElem?_cons_succ, LdV_some, dec_slice, dec_int, hD.row.cell]
    unfold ovD at hT hF
    by_cases hge : wait ≤ now
    · rw [decide_eq_true (show now ≥ wait from hge), cond_true]
      refine AtIx_row hb (by omega) hlt ?_
      simp -zeta only [LdV_some, dec_int, add_mk, Nat.zero_add, Int.toNat_natCast, c1]
      rw [wrap_i64 (by omega) (by omega)]
      rw [decide_eq_true hge, Bool.true_and] at hT hF
      cases hd : decide (e.1.2.since ≤ now - wait) with
      | true => exact hT hd
      | false => exact hF hd
    · rw [decide_eq_false (show ¬ now ≥ wait from hge), cond_false]
      exact hF (by rw [decide_eq_false hge]; rfl)
  · rw [decide_eq_false hlt, cond_false]
    rw [List.take_of_length_le (by omega)] at hbo hbl
    refine St_row hW.row rfl (by simp) fun w14 r14 f14 z14 => ?_
    simp only [List.set_cons_zero] at r14
    have hsub : (es.filter fun e => !ovD wait now e).Sublist es := List.filter_sublist
    refine ⟨hbo.fr (f14 (· = x) rfl) fun b hb e => by have := (no b hb).1; omega, lf, _, ⟨r14, hbl.fr (f14 (· = x) rfl) fun b hb e => by have := nl b hb; omega, fun e he => ((h.pc e (hsub.subset he)).ext hw).fr (f14 (· = x) rfl) fun z hz => (h.ap e (hsub.subset he) z hz).1, fun hz => by have := nl x hz; omega, fun e he z hz => ⟨(h.ap e (hsub.subset he) z hz).1, fun hz' => ?_⟩⟩, rfl, hsub, hw.fr (f14 (· = x) rfl), nl⟩
    have := nl z hz'
    have := (h.pc e (hsub.subset he)).lt hz
    omega
end
end Go.Proofs

/- The document's table: a part is put in. -/
namespace Go.Proofs
open Gp Gp.Hol Gp.Jn
set_option maxRecDepth 100000
set_option maxHeartbeats 4000000

theorem dtab_cons (y : DE) (es : List DE) : dtab (y :: es) = y.1 :: dtab es := rfl

theorem dt_some : ∀ {es : List DE} {k : Nat} {e : DE} {key : Key}, es[k]? = some e → e.1.1 = key → (∀ (i : Nat) (e' : DE), i < k → es[i]? = some e' → e'.1.1 ≠ key) →
    lkF (dtab es) key = some e.1.2 ∧ dtab (es.eraseIdx k) = delF (dtab es) key ∧ ∀ e' : DE, e'.1.1 = key → dtab (es.set k e') = upF (dtab es) key e'.1.2
  | [], _, _, _, h, _, _ => by simp at h
  | y :: es, 0, e, key, h, hk, _ => by
    rw [List.getElem?_cons_zero] at h
    cases h
    rw [dtab_cons]
    refine ⟨by rw [lkF_cons, if_pos hk.symm], by rw [delF_cons, if_pos hk.symm]; rfl, fun e' he' => ?_⟩
    rw [upF_cons, if_pos hk.symm]
    show e'.1 :: dtab es = (key, e'.1.2) :: dtab es
    rw [← he']
  | y :: es, k + 1, e, key, h, hk, hno => by
    have hy := hno 0 y (by omega) rfl
    obtain ⟨a, b, c⟩ := dt_some (es := es) (k := k) (e := e) (by simpa using h) hk fun i e' hi he' => hno (i + 1) e' (by omega) (by simpa using he')
    rw [dtab_cons]
    refine ⟨by rw [lkF_cons, if_neg fun q => hy q.symm, a], ?_, fun e' he' => ?_⟩
    · rw [delF_cons, if_neg fun q => hy q.symm, List.eraseIdx_cons_succ, dtab_cons, b]
    · rw [upF_cons, if_neg fun q => hy q.symm, List.set_cons_succ, dtab_cons, c e' he']

theorem dt_none : ∀ {es : List DE} {key : Key}, (∀ e ∈ es, e.1.1 ≠ key) → lkF (dtab es) key = none ∧ delF (dtab es) key = dtab es ∧ ∀ x, upF (dtab es) key x = dtab es ++ [(key, x)]
  | [], _, _ => ⟨rfl, rfl, fun _ => rfl⟩
  | y :: es, key, h => by
    have hy := h y (List.mem_cons_self ..)
    obtain ⟨a, b, c⟩ := dt_none (es := es) (key := key) fun e he => h e (List.mem_cons_of_mem _ he)
    rw [dtab_cons]
    exact ⟨by rw [lkF_cons, if_neg fun q => hy q.symm, a], by rw [delF_cons, if_neg fun q => hy q.symm, b], fun x => by rw [upF_cons, if_neg fun q => hy q.symm, c x]; rfl⟩

section
variable {w w' : World} {x : Nat} {tb : SliceV} {many bytes wait : Int} {es : List DE}

/-- One buffer of the document's is another one. -/
theorem DAt.upd {b : Nat} {pad : List Value} (h : DAt w x tb many bytes wait es) (hb : tb.a = some ⟨b, 0, none⟩) (hr0 : Row w b (es.flatMap eB ++ pad)) {k : Nat} {e e' : DE} (hk : es[k]? = some e) (hf : Fr8 w w' (· = b))
    (hr : Row w' b ((es.set k e').flatMap eB ++ pad)) (hp : PAt w' e') (ha : ∀ z, dpR e' z → z ≠ x ∧ ¬ SliceV.at tb z) : DAt w' x tb many bytes wait (es.set k e') := by
  have hat : SliceV.at tb b := ⟨0, hb⟩
  have hbx : x ≠ b := fun q => h.nx (q ▸ hat)
  have hmem : ∀ y ∈ es.set k e', y = e' ∨ y ∈ es := fun y hy => by
    rcases List.mem_or_eq_of_mem_set hy with g | g
    · exact .inr g
    · exact .inl g
  refine ⟨h.row.fr hf hbx, ⟨by rw [List.length_set]; exact h.buf.len, .inr ⟨b, pad, hb, ?_, hr⟩⟩, fun y hy => ?_, h.nx, fun y hy => ?_⟩
  · rw [List.length_set]
    rcases h.buf.mem with ⟨q, _⟩ | ⟨b', pad', q1, q2, q3⟩
    · rw [q] at hb; cases hb
    · rw [hb] at q1; cases q1
      have := hr0.unique q3
      have hl : pad.length = pad'.length := by
        have := congrArg List.length this
        simpa using this
      rw [hl]; exact q2
  · rcases hmem y hy with rfl | g
    · exact hp
    · exact (h.pc y g).fr hf fun z hz q => (h.ap y g z hz).2 (q ▸ hat)
  · rcases hmem y hy with rfl | g
    · exact ha
    · exact h.ap y g

/-- What the document's table is after a call. -/
structure DAddR (w w' : World) (x : Nat) (tb : SliceV) (many bytes wait : Int) (es : List DE) (N : Nat) (o : Out) (k : Key) (off : Int) (more : Bool) (b : List UInt8) (now : Int) (hd : ByteArray) (all : SliceV) (done : Bool) (e : Int) : Prop where
  tab : ∃ tb' es', DAt w' x tb' many bytes wait es' ∧ dtab es' = o.l ∧ (∀ z, SliceV.at tb' z → SliceV.at tb z ∨ w.heap.size ≤ z) ∧ (∀ y ∈ es', ∀ z, dpR y z → (∃ y0 ∈ es, dpR y0 z) ∨ w.heap.size ≤ z) ∧ ∀ y ∈ es', y.1.2.L.length ≤ N + 1
  out : hd = o.head ∧ done = o.done ∧ e = o.e
  whole : done = true → ∃ y, jopen many (dtab es) k now = some y ∧ 0 ≤ lastE (Hol.add y.L (off, more, b)).2 ∧ sum (Hol.add y.L (off, more, b)).2 = lastE (Hol.add y.L (off, more, b)).2 ∧
    ∃ out, SlB w' all out ∧ (out.length : Int) = lastE (Hol.add y.L (off, more, b)).2 ∧ ∀ p ∈ (Hol.add y.L (off, more, b)).2, Set out p p.2.2.length
  none : done = false → all = ⟨Option.none, 0, 0⟩
  fr : Fr8 w w' fun z => z = x ∨ SliceV.at tb z

theorem add_len1 (L : List Pc) (p : Pc) : (Hol.add L p).2.length ≤ L.length + 1 := by
  unfold Hol.add
  repeat' (first | split | (simp; done))
  all_goals simp


theorem SlB_apart {w : World} {s : SliceV} {l : List UInt8} {d : Nat} {L : List Value} (h : SlB w s l) (hr : Row w d L) (hL : ∀ v ∈ L, ∀ n, v ≠ .int .u8 n) : ∀ a, s.a = some a → 0 < l.length → ¬ a.block = d := by
  rintro a ha hl rfl
  obtain ⟨a', ha', hc⟩ := h.at_ (List.getElem?_eq_getElem hl)
  rw [ha] at ha'; cases ha'
  obtain ⟨T, ht⟩ := hr
  have e : a.add 0 = a := by simp [Addr.add]
  rw [e] at hc
  unfold World.cell? at hc
  rw [ht] at hc
  simp only at hc
  split at hc
  · cases hc
  · rw [List.getElem?_toArray] at hc
    exact hL _ (List.mem_of_getElem? hc) _ rfl

theorem DAt.free (h : DAt w x tb many bytes wait es) {s : SliceV} {b : List UInt8} (hs : SlB w s b) : ∀ a, s.a = some a → 0 < b.length → ¬ a.block = x :=
  SlB_apart hs h.row fun v hv n e => by
    subst e
    simp at hv

theorem row_set {es : List DE} {pad : List Value} {i j : Nat} {e e' : DE} {v : Value} (hk : es[i]? = some e) (hj : j < 5) (he : (eB e).set j v = eB e') : (es.flatMap eB ++ pad).set (i * 5 + j) v = (es.set i e').flatMap eB ++ pad := by
  have hlt := (List.getElem?_eq_some_iff.1 hk).1
  rw [List.set_append_left _ _ (by rw [flat_len eB 5 eB_len]; omega), flat_set eB 5 eB_len es i j e e' v hj hk he]

theorem dadd_ok (h : DAt w x tb many bytes wait es) (hb0 : 0 ≤ bytes) (hb1 : bytes ≤ 2 ^ 30) (hsum : jsum (dtab es) ≤ bytes) (hn : es.length ≤ 2 ^ 28) {N : Nat} (hN : N < 2 ^ 19) (hlen : ∀ y ∈ es, y.1.2.L.length ≤ N)
    {s : SliceV} {b : List UInt8} (hs : SlB w s b) (hbl : b.length ≤ 2 ^ 30) (k : Key) (off : Int) (more : Bool) (head : ByteArray) (now : Int) :
    c_ref16_Table_Add (some ⟨x, 0, none⟩) k off more s head now w fun hd all done e w' => DAddR w w' x tb many bytes wait es N (jadd many bytes (dtab es) k off more b head now) k off more b now hd all done e := by
  have hxl := h.row.lt
  have hs0 := jsum_nn (dtab es)
  apply ok_ref16_Table_Add
  unfold s_ref16_Table_Add
  refine cm_ref16_Table_find (dfind_ok h (by omega) k) ?_
  rintro r w0 ⟨hw, hfind⟩
  subst hw
  intro J10
  have hJ : ∀ (i : Nat) (W : World) (tb1 : SliceV) (es1 : List DE) (e : DE), Fr8 w0 W (fun z => z = x) → DAt W x tb1 many bytes wait es1 → es1[i]? = some e → e.1.1 = k → SlB W s b →
      jopen many (dtab es) k now = some e.1.2 → dtab (es1.eraseIdx i) = delF (dtab es) k → (∀ e' : DE, e'.1.1 = k → dtab (es1.set i e') = upF (dtab es) k e'.1.2) →
      (r < 0 → dtab (es1.eraseIdx i) = dtab es) → (¬ r < 0 → dtab es1 = dtab es) → jsum (dtab es1) = jsum (dtab es) → (∀ z, SliceV.at tb1 z → SliceV.at tb z ∨ w0.heap.size ≤ z) →
      (∀ y ∈ es1, ∀ z, dpR y z → (∃ y0 ∈ es, dpR y0 z) ∨ w0.heap.size ≤ z) → (∀ y ∈ es1, y.1.2.L.length ≤ N) → es1.length ≤ 2 ^ 28 + 1 → J10 (i : Int) W := by
    intro i W tb1 es1 e f1 D hk hkey hsW hopen hdel hup hful1 hful2 hjs htb hpc hlen1 hn1
    have hj : jadd many bytes (dtab es) k off more b head now = jput bytes (dtab es) e.1.2 k off more b head := by unfold jadd; rw [hopen]
    simp -zeta only [J10]
    simp -zeta only [hj]
    clear J10 hj
    simp -zeta only [ex_some, Ld_eq, List.getElem?_cons_zero, LdV_some, dec_slice, add_mk, Nat.zero_add, D.row.cell]
    have hil := (List.getElem?_eq_some_iff.1 hk).1
    have hbufl := D.buf.len
    obtain ⟨b0, pad, hb, hr⟩ := D.blk hk
    have hat : SliceV.at tb1 b0 := ⟨0, hb⟩
    refine AtIx_row hb (by omega) (by simp only; omega) ?_
    have Dd := D.ext (Ext.drew W)
    have hrd : Row W.drew b0 (es1.flatMap eB ++ pad) := hr.drew
    have hsd := hsW.ext (Ext.drew W)
    have fd : Fr8 w0 W.drew (· = x) := f1.ext (Ext.drew W)
    simp -zeta only [List.getElem?_cons_zero, List.getElem?_cons_succ, LdV_some, dec_int, add_mk, Nat.zero_add, Dd.row.cell, Int.toNat_natCast]
    have hem := List.mem_of_getElem? hk
    have hL := hlen1 e hem
    refine cm_ref16_Table_Bytes (dbytes_ok Dd (by omega) (fun y hy => by have := hlen1 y hy; omega) (by omega)) ?_
    rintro r2 w2 ⟨rfl, hw⟩
    subst hw
    refine ⟨by rw [Dd.row.cell]; rfl, ?_⟩
    refine cm_ref15_Holes_Room (qroom_ok (Dd.q hk hb hrd) (by omega) hsd) ?_
    rintro r3 w3 ⟨rfl, f3⟩
    have D3 := Dd.ext f3
    have hr3 := hrd.ext f3
    have hs3 := hsd.ext f3
    have fd3 : Fr8 w0 w3 (· = x) := fd.ext f3
    refine ⟨by rw [D3.row.cell]; rfl, ?_⟩
    have hrm : roomP e.1.2.L off b = room e.1.2.L off b := room_perm (List.Perm.refl _) off b
    have hrb : 0 ≤ room e.1.2.L off b ∧ room e.1.2.L off b ≤ b.length := by unfold room; split <;> omega
    rw [hrm, hjs, wrap_i64 (by omega) (by omega)]
    unfold jput
    by_cases hful : bytes - jsum (dtab es) < room e.1.2.L off b
    · rw [decide_eq_true (by omega), cond_true]
      simp -zeta only [if_pos hful]
      intro J23
      by_cases hr0 : r < 0
      · rw [decide_eq_true hr0, cond_true]
        refine cm_ref16_Table_without (dwithout_ok D3 (by omega) hil) ?_
        rintro w4 ⟨tb', D4, f4, n4⟩
        simp only [J23]
        have hsub : (es1.eraseIdx i).Sublist es1 := List.eraseIdx_sublist ..
        have := fd3.size
        refine ⟨⟨tb', _, D4, hful1 hr0, fun z hz => .inr (by have := n4 z hz; omega), fun y hy => hpc y (hsub.subset hy), fun y hy => by have := hlen1 y (hsub.subset hy); omega⟩, ⟨by trivial, by trivial, by trivial⟩, fun h => by simp at h, fun _ => by trivial, (fd3.trans f4 fun _ _ q => q).mono fun z hz => .inl hz⟩
      · rw [decide_eq_false hr0, cond_false]
        simp only [J23]
        refine ⟨⟨tb1, es1, D3, hful2 hr0, htb, hpc, fun y hy => by have := hlen1 y hy; omega⟩, ⟨by trivial, by trivial, by trivial⟩, fun h => by simp at h, fun _ => by trivial, fd3.mono fun z hz => .inl hz⟩
    rw [decide_eq_false (by omega), cond_false]
    simp -zeta only [if_neg hful]
    refine cm_ref15_Holes_Add (qadd_ok (D3.q hk hb hr3) (by omega) (D3.hg hk) hs3 (by omega)) ?_
    rintro r4 w4 ⟨rfl, t', ys', Q4, f4, ht', hys'⟩
    generalize hA : Hol.add e.1.2.L (off, more, b) = A at Q4 ⊢
    have G4 : Gp.Hol.Good A.2 := by rw [← hA]; exact (D3.pc e hem).G.add' _
    have hAl : A.2.length ≤ N + 1 := by rw [← hA]; have := add_len1 e.1.2.L (off, more, b); omega
    have hsz3 := fd3.size
    have pAt : ∀ (x1 : Bf), x1.L = A.2 → PAt w4 ((k, x1), t', ys') := fun x1 h1 => ⟨Q4.buf, by simp only [h1]; exact Q4.pcs, by simp only [h1]; exact G4⟩
    have dp : ∀ z, (SliceV.at t' z ∨ ∃ y ∈ ys', ∃ a : Addr, y.2.2.1.a = some a ∧ 0 < y.2.2.1.len ∧ a.block = z) → dpR e z ∨ w3.heap.size ≤ z := by
      rintro z (g | ⟨y, hy, a, ha, h0, rfl⟩)
      · rcases ht' z g with g | g
        · exact .inl (.inl g)
        · exact .inr g
      · rcases hys' y hy with g | g
        · exact .inl (.inr ⟨y, g, a, ha, h0, rfl⟩)
        · exact .inr (g a ha)
    have apt : ∀ z, (SliceV.at t' z ∨ ∃ y ∈ ys', ∃ a : Addr, y.2.2.1.a = some a ∧ 0 < y.2.2.1.len ∧ a.block = z) → z ≠ x ∧ ¬ SliceV.at tb1 z := fun z hz => by
      rcases dp z hz with g | g
      · exact D3.ap e hem z g
      · exact ⟨by omega, fun q => by have := D3.buf.lt q; omega⟩
    have e3set : ((es1.flatMap eB ++ pad).set (i * 5 + 2) (.slice t'.a t'.len t'.cap)) = (es1.set i ((k, { e.1.2 with L := A.2 }), t', ys')).flatMap eB ++ pad := row_set hk (by omega) (by rw [← hkey]; rfl)
    have r4 := Q4.row
    rw [e3set] at r4
    have D4 : DAt w4 x tb1 many bytes wait (es1.set i ((k, { e.1.2 with L := A.2 }), t', ys')) := D3.upd hb hr3 hk f4 r4 (pAt _ rfl) apt
    have fd4 : Fr8 w0 w4 fun z => z = x ∨ SliceV.at tb z := (fd3.mono fun z hz => .inl hz).trans f4 fun z hz q => by
      rcases htb z (q ▸ hat) with g | g
      · exact .inr g
      · omega
    have hpc' : ∀ (x1 : Bf), ∀ y ∈ es1.set i ((k, x1), t', ys'), ∀ z, dpR y z → (∃ y0 ∈ es, dpR y0 z) ∨ w0.heap.size ≤ z := fun x1 y hy z hz => by
      rcases List.mem_or_eq_of_mem_set hy with g | rfl
      · exact hpc y g z hz
      · rcases dp z hz with g | g
        · exact hpc e hem z g
        · exact .inr (by omega)
    have hln' : ∀ (x1 : Bf), x1.L = A.2 → ∀ y ∈ es1.set i ((k, x1), t', ys'), y.1.2.L.length ≤ N + 1 := fun x1 h1 y hy => by
      rcases List.mem_or_eq_of_mem_set hy with g | rfl
      · have := hlen1 y g; omega
      · simp only [h1]; exact hAl
    by_cases hz : A.1 = 0
    case neg =>
      rw [show (A.1 != 0) = true by simpa using hz, cond_true]
      simp -zeta only [if_pos hz]
      refine cm_ref16_Table_without (dwithout_ok D4 (by rw [List.length_set]; omega) (by rw [List.length_set]; exact hil)) ?_
      rintro w5 ⟨tb', D5, f5, n5⟩
      rw [List.eraseIdx_set_eq] at D5
      have hsub : (es1.eraseIdx i).Sublist es1 := List.eraseIdx_sublist ..
      have := fd4.size
      refine ⟨⟨tb', _, D5, hdel, fun z hz => .inr (by have := n5 z hz; omega), fun y hy => hpc y (hsub.subset hy), fun y hy => by have := hlen1 y (hsub.subset hy); omega⟩, ⟨by trivial, by trivial, by trivial⟩, fun h => by simp at h, fun _ => by trivial, fd4.trans f5 fun z _ q => .inl q⟩
    rw [show (A.1 != 0) = false by simpa using hz, cond_false]
    simp -zeta only [if_neg (show ¬ (¬ A.1 = 0) from fun h => h hz)]
    intro J30
    have h30 : ∀ (W4 : World), Fr8 w0 W4 (fun z => z = x ∨ SliceV.at tb z) → DAt W4 x tb1 many bytes wait (es1.set i ((k, begin_ { e.1.2 with L := A.2 } off head), t', ys')) → J30 W4 := by
      intro W4 g4 E4
      simp -zeta only [J30]
      have hk4 : (es1.set i ((k, begin_ { e.1.2 with L := A.2 } off head), t', ys'))[i]? = some ((k, begin_ { e.1.2 with L := A.2 } off head), t', ys') := by rw [List.getElem?_set_self hil]
      obtain ⟨b4, pad4, hb4, hr4⟩ := E4.blk hk4
      rw [hb] at hb4
      cases hb4
      have hbl' : (begin_ { e.1.2 with L := A.2 } off head).L = A.2 := begin_L _ _ _
      have Q5 := E4.q hk4 hb hr4
      simp only [hbl'] at Q5
      refine cm_ref15_Holes_Done (qdone_ok Q5 G4 (by omega)) ?_
      rintro r5 ok w5 ⟨hok, f5⟩
      have E5 := E4.ext f5
      have g5 := g4.ext f5
      have hr5 := hr4.ext f5
      have hsz5 := g5.size
      rcases hok with ⟨rfl, q1, q2, out, q3, q4, q5⟩ | ⟨rfl, q1, q3⟩
      · have hwh : wholeB A.2 = true := decide_eq_true ⟨q1, q2⟩
        simp -zeta only [if_pos hwh, cond_true]
        have c3 : w5.cell? ⟨b0, i * 5 + 3, none⟩ = some (.string (begin_ { e.1.2 with L := A.2 } off head).head) := by
          rw [hr5.cell, flat_at hk4 (by omega)]; rfl
        simp -zeta only [LdV_some, dec_str, c3]
        refine cm_ref16_Table_without (dwithout_ok E5 (by rw [List.length_set]; omega) (by rw [List.length_set]; exact hil)) ?_
        rintro w6 ⟨tb', D6, f6, n6⟩
        rw [List.eraseIdx_set_eq] at D6
        have hsub : (es1.eraseIdx i).Sublist es1 := List.eraseIdx_sublist ..
        refine ⟨⟨tb', _, D6, hdel, fun z hz => .inr (by have := n6 z hz; omega), fun y hy => hpc y (hsub.subset hy), fun y hy => by have := hlen1 y (hsub.subset hy); omega⟩, ⟨by trivial, by trivial, by trivial⟩, fun _ => ⟨_, hopen, ?_⟩, fun h => by simp at h, g5.trans f6 fun z _ q => .inl q⟩
        rw [hA]
        exact ⟨q1, q2, out, q3.fr f6 (E5.free q3), q4, q5⟩
      · have hwh : ¬ wholeB A.2 = true := fun h => by
          obtain ⟨a1, a2⟩ := of_decide_eq_true h
          rcases q1 with q | q
          · omega
          · exact q a2
        simp -zeta only [if_neg hwh, cond_false]
        refine ⟨⟨tb1, _, E5, hup _ rfl, htb, hpc' _, hln' _ hbl'⟩, ⟨by trivial, by trivial, by trivial⟩, fun h => by simp at h, fun _ => by trivial, g5⟩
    clear_value J30
    have hk4 : (es1.set i ((k, ({ e.1.2 with L := A.2 } : Bf)), t', ys'))[i]? = some ((k, { e.1.2 with L := A.2 }), t', ys') := by rw [List.getElem?_set_self hil]
    intro J39
    have hF : ¬ (off = 0 ∧ e.1.2.begun = false) → J39 false := fun hc => by
      simp -zeta only [J39, cond_false]
      refine h30 w4 fd4 ?_
      have : begin_ { e.1.2 with L := A.2 } off head = { e.1.2 with L := A.2 } := by unfold begin_; exact if_neg hc
      rw [this]; exact D4
    have hT : off = 0 ∧ e.1.2.begun = false → J39 true := fun hc => by
      simp -zeta only [J39, cond_true]
      refine St_row r4 rfl (by rw [List.length_append, flat_len eB 5 eB_len, List.length_set]; omega) fun w5 r5 f5 z5 => ?_
      refine St_row r5 rfl (by rw [List.length_set, List.length_append, flat_len eB 5 eB_len, List.length_set]; omega) fun w6 r6 f6 z6 => ?_
      have hx1 : begin_ { e.1.2 with L := A.2 } off head = { e.1.2 with L := A.2, head := head, begun := true } := by unfold begin_; exact if_pos hc
      have s1 : ((es1.set i ((k, ({ e.1.2 with L := A.2 } : Bf)), t', ys')).flatMap eB ++ pad).set (i * 5 + 3) (.string head) = (es1.set i ((k, ({ e.1.2 with L := A.2, head := head } : Bf)), t', ys')).flatMap eB ++ pad := by
        rw [row_set hk4 (by omega) (e' := ((k, ({ e.1.2 with L := A.2, head := head } : Bf)), t', ys')) rfl, List.set_set]
      have hk5 : (es1.set i ((k, ({ e.1.2 with L := A.2, head := head } : Bf)), t', ys'))[i]? = some ((k, { e.1.2 with L := A.2, head := head }), t', ys') := by rw [List.getElem?_set_self hil]
      have s2 : ((es1.set i ((k, ({ e.1.2 with L := A.2, head := head } : Bf)), t', ys')).flatMap eB ++ pad).set (i * 5 + 4) (.bool true) = (es1.set i ((k, begin_ { e.1.2 with L := A.2 } off head), t', ys')).flatMap eB ++ pad := by
        rw [row_set hk5 (by omega) (e' := ((k, ({ e.1.2 with L := A.2, head := head, begun := true } : Bf)), t', ys')) rfl, List.set_set, hx1]
      rw [s1, s2] at r6
      have f46 : Fr8 w4 w6 (· = b0) := (f5 (· = b0) rfl).trans (f6 (· = b0) rfl) fun _ _ q => q
      have hfr : Fr8 w0 w6 fun z => z = x ∨ SliceV.at tb z := fd4.trans f46 fun z hz q => by
        rcases htb z (q ▸ hat) with g | g
        · exact .inr g
        · omega
      refine h30 w6 hfr ?_
      have r6' : Row w6 b0 (((es1.set i ((k, ({ e.1.2 with L := A.2 } : Bf)), t', ys')).set i ((k, begin_ { e.1.2 with L := A.2 } off head), t', ys')).flatMap eB ++ pad) := by rw [List.set_set]; exact r6
      have pA : PAt w6 ((k, begin_ { e.1.2 with L := A.2 } off head), t', ys') := by
        have p0 := pAt (begin_ { e.1.2 with L := A.2 } off head) (begin_L _ _ _)
        exact p0.fr f46 fun z hz q => (apt z hz).2 (q ▸ hat)
      have := D4.upd hb r4 hk4 f46 r6' pA apt
      rwa [List.set_set] at this
    clear_value J39
    by_cases ho : off = 0
    · rw [show (off == 0) = true by simpa using ho, cond_true]
      have c4 : w4.cell? ⟨b0, i * 5 + 4, none⟩ = some (.bool e.1.2.begun) := by
        rw [r4.cell, flat_at hk4 (by omega)]; rfl
      simp -zeta only [LdV_some, dec_bool, c4]
      cases hbg : e.1.2.begun with
      | true => exact hF fun h => by rw [hbg] at h; cases h.2
      | false => exact hT ⟨ho, hbg⟩
    · rw [show (off == 0) = false by simpa using ho, cond_false]
      exact hF fun h => ho h.1
  clear_value J10
  rcases hfind with ⟨i, e, hk, hkey, rfl, hno⟩ | ⟨rfl, hno⟩
  · rw [decide_eq_false (by omega), cond_false]
    obtain ⟨d1, d2, d3⟩ := dt_some hk hkey hno
    have hopen : jopen many (dtab es) k now = some e.1.2 := by unfold jopen; rw [d1]
    exact hJ i w0 tb es e (Fr8.refl _ _) h hk hkey hs hopen d2 d3 (fun h => by omega) (fun _ => rfl) rfl (fun z hz => .inl hz) (fun y hy z hz => .inl ⟨y, hy, hz⟩) hlen (by omega)
  · rw [decide_eq_true (by omega), cond_true]
    obtain ⟨d1, d2, d3⟩ := dt_none hno
    have hd := h.ext (Ext.drew w0)
    have zd : w0.drew.heap.size = w0.heap.size := rfl
    simp -zeta only [ex_some, Ld_eq, List.getElem?_cons_zero, List.getElem?_cons_succ, LdV_some, dec_slice, dec_int, add_mk, Nat.zero_add, hd.row.cell]
    have hlen0 := h.buf.len
    by_cases hfl : many ≤ (tb.len : Int)
    · rw [decide_eq_true (show (tb.len : Int) ≥ many from hfl), cond_true]
      have hj : jadd many bytes (dtab es) k off more b head now = ⟨⟨#[]⟩, false, 7, dtab es⟩ := by
        unfold jadd jopen
        rw [d1]
        simp only
        rw [if_pos (by rw [dtab_len]; omega)]
      rw [hj]
      exact ⟨⟨tb, es, hd, rfl, fun z hz => .inl hz, fun y hy z hz => .inl ⟨y, hy, hz⟩, fun y hy => by have := hlen y hy; omega⟩, ⟨by trivial, by trivial, by trivial⟩, fun h => by simp at h, fun _ => by trivial, Fr8.drew _ _⟩
    rw [decide_eq_false (show ¬ (tb.len : Int) ≥ many from hfl), cond_false]
    have hopen : jopen many (dtab es) k now = some (fresh now) := by
      unfold jopen
      rw [d1]
      simp only
      rw [if_neg (by rw [dtab_len]; omega)]
    refine AppSl_bufN eB_len BufN.nil hd.sl rfl (by omega) eB_one (by rw [List.length_nil]; omega) (by rw [List.length_nil]; omega) fun s1 w1 b1 f1 a1 => ?_
    have f1 : Ext w0 w1 := (Ext.drew w0).new f1 (by rintro c hc ⟨o, e⟩; cases e)
    have z1 := f1.size
    rw [List.nil_append] at b1
    have n1 : ∀ b, SliceV.at s1 b → w0.heap.size ≤ b := fun b hb => by
      rcases a1 b hb with g | g
      · exact (no_at g).elim
      · omega
    have ec : (if (1099511627776 : Int) < (if (0 : Int) > now then 0 else now) then 1099511627776 else (if (0 : Int) > now then 0 else now)) = clampT now := by
      unfold clampT
      split <;> split <;> omega
    rw [ec]
    refine app_ent b1 ((k, fresh now), ⟨none, 0, 0⟩, []) (by omega) fun s2 w2 b2 f2 a2 => ?_
    have f2 : Ext w0 w2 := f1.new f2 fun b hb q => by have := n1 b q; omega
    have n2 : ∀ b, SliceV.at s2 b → w0.heap.size ≤ b := fun b hb => by
      rcases a2 b hb with g | g
      · exact n1 b g
      · omega
    have h2 := h.ext f2
    refine St_row h2.row rfl (by simp) fun w3 r3 f3 z3 => ?_
    simp only [List.set_cons_zero] at r3
    have f3 := f3 (· = x) rfl
    simp -zeta only [List.getElem?_cons_zero, LdV_some, dec_slice, r3.cell]
    have hlen2 := b2.len
    rw [List.length_append, List.length_singleton] at hlen2
    rw [wrap_i64 (by omega) (by omega)]
    have D : DAt w3 x s2 many bytes wait (es ++ [((k, fresh now), ⟨none, 0, 0⟩, [])]) := by
      refine ⟨r3, b2.fr f3 fun b hb q => by have := n2 b hb; omega, fun y hy => ?_, fun q => by have := n2 x q; omega, fun y hy z hz => ?_⟩
      · rcases List.mem_append.1 hy with g | g
        · exact (h2.pc y g).fr f3 fun z hz => (h.ap y g z hz).1
        · rw [List.mem_singleton.1 g]
          exact ⟨BufN.nil, ⟨rfl, fun i x p hx => by simp at hx⟩, Gp.Hol.Good.nil⟩
      · rcases List.mem_append.1 hy with g | g
        · exact ⟨(h.ap y g z hz).1, fun q => by have := n2 z q; have := (h.pc y g).lt hz; omega⟩
        · rw [List.mem_singleton.1 g] at hz
          rcases hz with ⟨o, q⟩ | ⟨y, hy, _⟩
          · cases q
          · simp at hy
    have e1 : dtab (es ++ [((k, fresh now), (⟨none, 0, 0⟩ : SliceV), ([] : List P3))]) = dtab es ++ [(k, fresh now)] := by unfold dtab; rw [List.map_append]; rfl
    have e2 : (es ++ [((k, fresh now), (⟨none, 0, 0⟩ : SliceV), ([] : List P3))]).eraseIdx es.length = es := by
      rw [List.eraseIdx_append_of_length_le (Nat.le_refl _)]; simp
    have := hJ es.length w3 s2 (es ++ [((k, fresh now), ⟨none, 0, 0⟩, [])]) ((k, fresh now), ⟨none, 0, 0⟩, []) (f2.fr f3) D (by rw [List.getElem?_append_right (Nat.le_refl _)]; simp) rfl ((hs.ext f2).fr f3 (h2.free (hs.ext f2))) hopen
      (by rw [e2, d2]) (fun e' he' => ?_) (fun _ => by rw [e2]) (fun h => absurd (by omega) h) (by rw [e1, jsum_snoc]; show jsum (dtab es) + sum (fresh now).L = _; rw [fresh_sum]; omega) (fun z hz => .inr (n2 z hz))
      (fun y hy z hz => ?_) (fun y hy => ?_) (by rw [List.length_append, List.length_singleton]; omega)
    · rw [show (s2.len : Int) - 1 = (es.length : Int) by omega]
      exact this
    · rw [List.set_append_right _ _ (Nat.le_refl _), Nat.sub_self, List.set_cons_zero, d3, ← he']
      unfold dtab; rw [List.map_append]; rfl
    · rcases List.mem_append.1 hy with g | g
      · exact .inl ⟨y, g, hz⟩
      · rw [List.mem_singleton.1 g] at hz
        rcases hz with ⟨o, q⟩ | ⟨y, hy, _⟩
        · cases q
        · simp at hy
    · rcases List.mem_append.1 hy with g | g
      · exact hlen y g
      · rw [List.mem_singleton.1 g]; exact Nat.zero_le _
end
end Go.Proofs

/- Both tables do the same. -/
namespace Go.Proofs
open Gp Gp.Hol Gp.Jn
set_option maxRecDepth 100000
set_option maxHeartbeats 4000000

theorem dnew_ok (a b c : Int) (w : World) : c_ref16_New a b c w fun t e w' => (¬ newOk a b c ∧ t = none ∧ e = 1 ∧ w' = w) ∨
    (newOk a b c ∧ e = 0 ∧ ∃ x, t = some ⟨x, 0, none⟩ ∧ DAt w' x ⟨none, 0, 0⟩ a b c [] ∧ w.heap.size ≤ x ∧ Ext w w') := by
  apply ok_ref16_New
  unfold s_ref16_New
  intro J4
  have hT : ¬ newOk a b c → J4 true := fun h => by
    simp only [J4, cond_true]
    exact .inl ⟨h, by trivial, by trivial, by trivial⟩
  have hF : newOk a b c → J4 false := fun h => by
    simp only [J4, cond_false]
    refine Al_e fun x w1 r1 e1 z1 f1 => .inr ⟨h, by trivial, x, rfl, ⟨r1, BufN.nil, fun e he => by simp at he, fun q => (no_at q).elim, fun e he => by simp at he⟩, by omega, f1⟩
  clear_value J4
  by_cases h1 : a < 0
  · rw [decide_eq_true h1, cond_true]; exact hT fun h => by have := h.1; omega
  rw [decide_eq_false h1, cond_false]
  by_cases h2 : a > 1073741824
  · rw [decide_eq_true h2, cond_true]; exact hT fun h => by have := h.1; omega
  rw [decide_eq_false h2, cond_false]
  by_cases h3 : b < 0
  · rw [decide_eq_true h3, cond_true]; exact hT fun h => by have := h.2.1; omega
  rw [decide_eq_false h3, cond_false]
  by_cases h4 : b > 1073741824
  · rw [decide_eq_true h4, cond_true]; exact hT fun h => by have := h.2.1; omega
  rw [decide_eq_false h4, cond_false]
  by_cases h5 : c < 1
  · rw [decide_eq_true h5, cond_true]; exact hT fun h => by have := h.2.2; omega
  rw [decide_eq_false h5, cond_false]
  by_cases h6 : c > 1099511627776
  · rw [decide_eq_true h6]; exact hT fun h => by have := h.2.2; omega
  · rw [decide_eq_false h6]; exact hF ⟨⟨by omega, by omega⟩, ⟨by omega, by omega⟩, by omega, by omega⟩

theorem jadd_cnt (many bytes : Int) (l : JT) (k : Key) (off : Int) (more : Bool) (b : List UInt8) (head : ByteArray) (now : Int) : (jadd many bytes l k off more b head now).l.length ≤ l.length + 1 := by
  unfold jadd
  split
  · simp
  unfold jput
  have hd := del_le l k
  split
  · simp
  split
  · simp only; omega
  split
  · simp only; omega
  · simp only [up_len]; split <;> omega

def JF (t m : Nat) (rs : List (Key × JE)) (z : Nat) : Prop := z = t ∨ z = m ∨ ∃ y ∈ rs, fpR y.2.1 z
def DF (x : Nat) (tb : SliceV) (es : List DE) (z : Nat) : Prop := z = x ∨ SliceV.at tb z ∨ ∃ y ∈ es, dpR y z

/-- Both tables, newer than a world. -/
structure JD (w0 w : World) (t m x : Nat) (many bytes wait : Int) (N : Nat) (l : JT) (rs : List (Key × JE)) (tb : SliceV) (es : List DE) : Prop where
  j : JAt w t m many bytes wait rs
  d : DAt w x tb many bytes wait es
  jt : jtab rs = l
  dt : dtab es = l
  jl : ∀ y ∈ rs, y.2.1.l.length ≤ N
  dl : ∀ y ∈ es, y.1.2.L.length ≤ N
  cnt : l.length ≤ N
  sum : jsum l ≤ bytes
  len : (l.length : Int) ≤ many
  jn : ∀ z, JF t m rs z → w0.heap.size ≤ z
  dn : ∀ z, DF x tb es z → w0.heap.size ≤ z
  dis : ∀ z, JF t m rs z → ¬ DF x tb es z
  ext : Ext w0 w

section
variable {w0 w w' : World} {t m x : Nat} {many bytes wait : Int} {N : Nat} {l : JT} {rs : List (Key × JE)} {tb : SliceV} {es : List DE}

theorem JAt.ltF (h : JAt w t m many bytes wait rs) {z : Nat} (hz : JF t m rs z) : z < w.heap.size := by
  rcases hz with rfl | rfl | ⟨y, hy, hz⟩
  · exact h.row.lt
  · exact h.map.lt
  · exact (h.bufs y hy).lt hz
theorem DAt.ltF (h : DAt w x tb many bytes wait es) {z : Nat} (hz : DF x tb es z) : z < w.heap.size := by
  rcases hz with rfl | hz | ⟨y, hy, hz⟩
  · exact h.row.lt
  · exact h.buf.lt hz
  · exact (h.pc y hy).lt hz
theorem JAt.frF {S : Nat → Prop} (h : JAt w t m many bytes wait rs) (hf : Fr8 w w' S) (hs : ∀ z, JF t m rs z → ¬ S z) : JAt w' t m many bytes wait rs :=
  h.fr hf (hs t (.inl rfl)) (hs m (.inr (.inl rfl))) fun e he z hz => hs z (.inr (.inr ⟨e, he, hz⟩))
theorem DAt.frF {S : Nat → Prop} (h : DAt w x tb many bytes wait es) (hf : Fr8 w w' S) (hs : ∀ z, DF x tb es z → ¬ S z) : DAt w' x tb many bytes wait es :=
  h.fr hf (hs x (.inl rfl)) (fun z hz => hs z (.inr (.inl hz))) fun e he z hz => hs z (.inr (.inr ⟨e, he, hz⟩))

theorem JD.more (h : JD w0 w t m x many bytes wait N l rs tb es) (hf : Ext w w') : JD w0 w' t m x many bytes wait N l rs tb es :=
  ⟨h.j.ext hf, h.d.ext hf, h.jt, h.dt, h.jl, h.dl, h.cnt, h.sum, h.len, h.jn, h.dn, h.dis, h.ext.trans hf⟩

/-- Our table has changed. -/
theorem JD.left {rs' : List (Key × JE)} {S : Nat → Prop} (h : JD w0 w t m x many bytes wait N l rs tb es) (hf : Fr8 w w' S) (hS : ∀ z, S z → JF t m rs z) (hn : ∀ z, JF t m rs' z → JF t m rs z ∨ w.heap.size ≤ z) :
    (∀ z, JF t m rs' z → w0.heap.size ≤ z) ∧ DAt w' x tb many bytes wait es ∧ (∀ z, JF t m rs' z → ¬ DF x tb es z) ∧ Ext w0 w' := by
  have hs := h.ext.size
  refine ⟨fun z hz => ?_, h.d.frF hf fun z hz q => h.dis z (hS z q) hz, fun z hz q => ?_, h.ext.new hf fun z hz q => by have := h.jn z (hS z q); omega⟩
  · rcases hn z hz with g | g
    · exact h.jn z g
    · omega
  · rcases hn z hz with g | g
    · exact h.dis z g q
    · have := h.d.ltF q; omega

theorem opened {many : Int} {l : JT} (hg : ∀ y ∈ l, Gp.Hol.Good y.2.L) {k : Key} {now : Int} {y : Bf} (h : jopen many l k now = some y) : Gp.Hol.Good y.L := by
  unfold jopen at h
  split at h
  · rename_i v hv
    cases h
    exact hg _ (lk_memJ hv)
  · split at h
    · cases h
    · cases h
      exact Gp.Hol.Good.nil
end
end Go.Proofs

/- Buffers do any calls in any order as the document says. -/
namespace Go.Proofs
open Gp Gp.Hol Gp.Jn
set_option maxRecDepth 100000
set_option maxHeartbeats 4000000

section
variable {w0 w w' : World} {t m x : Nat} {many bytes wait : Int} {N : Nat} {l : JT} {rs : List (Key × JE)} {tb : SliceV} {es : List DE}

theorem JD.good (h : JD w0 w t m x many bytes wait N l rs tb es) : ∀ y ∈ l, Gp.Hol.Good y.2.L := by
  rw [← h.dt]
  intro y hy
  obtain ⟨e, he, rfl⟩ := List.mem_map.1 hy
  exact (h.d.pc e he).G

/-- Time passes for both. -/
theorem jboth_expire {u : Nat} {vs : List Value} (h : JD w0 w t m x many bytes wait N l rs tb es) (hN : N ≤ 2 ^ 20) (hw1 : 1 ≤ wait) {now : Int} (hnow : now ≤ 9223372036854775807) (hu : Row w u vs) (hu1 : ¬ JF t m rs u) {Kf : Bool → World → Prop}
    (hK : ∀ w' rs' tb' es', JD w0 w' t m x many bytes wait N (jexpire wait now l).2 rs' tb' es' → Kf true w') :
    c_join_Table_Expire (some ⟨t, 0, none⟩) now w fun r1 w1 => (∀ i, w1.cell? ⟨u, i, none⟩ = vs[i]?) ∧ c_ref16_Table_Expire (some ⟨x, 0, none⟩) now w1 fun r2 w2 => c_slices_Equal_string_string r1 r2 w2 Kf := by
  have hcl := h.cnt
  have hrl : rs.length ≤ N := by have := h.jt; have := congrArg List.length this; unfold jtab at this; rw [List.length_map] at this; omega
  have hel : es.length ≤ N := by have := h.dt; have := congrArg List.length this; unfold dtab at this; rw [List.length_map] at this; omega
  refine cm_join_Table_Expire (expire_ok h.j (by omega) hw1 hnow) ?_
  rintro r1 w1 ⟨⟨rs', j1, j2, j3⟩, b1, f1, n1⟩
  obtain ⟨q1, q2, q3, q4⟩ := h.left (rs' := rs') f1 (fun z hz => .inr (.inl hz)) fun z hz => .inl (by
    rcases hz with g | g | ⟨y, hy, g⟩
    · exact .inl g
    · exact .inr (.inl g)
    · exact .inr (.inr ⟨y, j3.subset hy, g⟩))
  refine ⟨fun i => (hu.fr f1 fun q => hu1 (.inr (.inl q))).cell i, ?_⟩
  refine cm_ref16_Table_Expire (dexpire_ok q2 (by omega) hw1 hnow) ?_
  rintro r2 w2 ⟨b2, tb', es', d1, d2, d3, f2, n2⟩
  rw [h.jt] at b1 j2
  rw [h.dt] at b2 d2
  have b1' := b1.fr f2 fun b hb q => by have := n1 b hb; have := h.d.row.lt; omega
  have hjl : (jexpire wait now l).1.length ≤ 2 ^ 30 := by
    unfold jexpire
    split
    · simp
    · rw [(sortK_ok _).2.length_eq, List.length_map]
      have := List.length_filter_le (over wait now) l
      omega
  refine cm_slices_Equal_string_string (eqk_ok (b1'.sl eK_len (by omega)) (b2.sl eK_len (by omega)) hjl) ?_
  rintro r w3 ⟨rfl, f3⟩
  rw [decide_eq_true rfl]
  have hsub := jexpire_sub wait now l
  have hsl := hsub.length_le
  have hsj := jsum_sub hsub
  have hsum := h.sum
  have hlen := h.len
  have hdn : ∀ z, DF x tb' es' z → DF x tb es z ∨ w1.heap.size ≤ z := fun z hz => by
    rcases hz with g | g | ⟨y, hy, g⟩
    · exact .inl (.inl g)
    · exact .inr (n2 z g)
    · exact .inl (.inr (.inr ⟨y, d3.subset hy, g⟩))
  have hxn : ∀ z, JF t m rs' z → z ≠ x := fun z hz q => q3 z hz (.inl q)
  refine hK w3 rs' tb' es' ⟨(j1.frF f2 fun z hz q => hxn z hz q).ext f3, d1.ext f3, j2, d2, fun y hy => h.jl y (j3.subset hy), fun y hy => h.dl y (d3.subset hy), by omega, by omega, by omega, q1, fun z hz => ?_, fun z hz q => ?_, (q4.new f2 fun z hz q => by have := h.dn x (.inl rfl); omega).trans f3⟩
  · rcases hdn z hz with g | g
    · exact h.dn z g
    · have := q4.size; omega
  · rcases hdn z q with g | g
    · exact q3 z hz g
    · have := j1.ltF hz; omega

/-- A part is put into both. -/
theorem jboth_add {u : Nat} {vs : List Value} (h : JD w0 w t m x many bytes wait N l rs tb es) (hN : N < 2 ^ 19) (hb0 : 0 ≤ bytes) (hb1 : bytes ≤ 2 ^ 30) (hu : Row w u vs) (hu1 : ¬ JF t m rs u) {s : SliceV} {b : List UInt8} (hs : SlB w s b) (hvs : ∀ a, s.a = some a → 0 < b.length → ¬ JF t m rs a.block) (hbl : b.length ≤ 2 ^ 30) (k : Key) (off : Int) (more : Bool) (head : ByteArray) (now : Int) :
    c_join_Table_Add (some ⟨t, 0, none⟩) k off more s head now w fun h1 all1 d1 e1 w1 => (∀ i, w1.cell? ⟨u, i, none⟩ = vs[i]?) ∧ c_ref16_Table_Add (some ⟨x, 0, none⟩) k off more s head now w1 fun h2 all2 d2 e2 w2 =>
      h1 = h2 ∧ d1 = d2 ∧ e1 = e2 ∧ (∃ out, SlB w2 all1 out ∧ SlB w2 all2 out) ∧ ∃ rs' tb' es', JD w0 w2 t m x many bytes wait (N + 1) (jadd many bytes l k off more b head now).l rs' tb' es' := by
  have hcl := h.cnt
  have hel : es.length ≤ N := by have := h.dt; have := congrArg List.length this; unfold dtab at this; rw [List.length_map] at this; omega
  obtain ⟨c1, c2⟩ := jadd_bounds h.sum h.len k off more b head now
  have c3 := jadd_cnt many bytes l k off more b head now
  have hsum := h.sum
  refine cm_join_Table_Add (jadd_ok h.j hb0 hb1 (by rw [h.jt]; exact hsum) hN h.jl hs hbl k off more head now) ?_
  rintro h1 all1 d1 e1 w1 ⟨⟨rs', j1, j2, j3, j4⟩, ⟨o1, o2, o3⟩, hwh, hno, f1⟩
  obtain ⟨q1, q2, q3, q4⟩ := h.left (rs' := rs') f1 (fun z hz => by
    rcases hz with g | g
    · exact .inr (.inl g)
    · exact .inr (.inr g)) fun z hz => by
    rcases hz with g | g | ⟨y, hy, g⟩
    · exact .inl (.inl g)
    · exact .inl (.inr (.inl g))
    · rcases j4 y hy z g with g | g
      · exact .inl (.inr (.inr g))
      · exact .inr g
  have nS : ∀ z, ¬ JF t m rs z → ¬ (z = m ∨ ∃ y ∈ rs, fpR y.2.1 z) := fun z hz q => by
    rcases q with g | g
    · exact hz (.inr (.inl g))
    · exact hz (.inr (.inr g))
  refine ⟨fun i => (hu.fr f1 (nS u hu1)).cell i, ?_⟩
  have hs1 := hs.fr f1 fun a ha h0 => nS _ (hvs a ha h0)
  refine cm_ref16_Table_Add (dadd_ok q2 hb0 hb1 (by rw [h.dt]; exact hsum) (by omega) hN h.dl hs1 hbl k off more head now) ?_
  rintro h2 all2 d2 e2 w2 ⟨⟨tb', es', g1, g2, g3, g4, g5⟩, ⟨p1, p2, p3⟩, dwh, dno, f2⟩
  rw [h.jt] at hwh j2 o1 o2 o3
  rw [h.dt] at dwh g2 p1 p2 p3
  have hdf : ∀ z, (z = x ∨ SliceV.at tb z) → DF x tb es z := fun z hz => by
    rcases hz with g | g
    · exact .inl g
    · exact .inr (.inl g)
  have hdn : ∀ z, DF x tb' es' z → DF x tb es z ∨ w1.heap.size ≤ z := fun z hz => by
    rcases hz with g | g | ⟨y, hy, g⟩
    · exact .inl (.inl g)
    · rcases g3 z g with g | g
      · exact .inl (.inr (.inl g))
      · exact .inr g
    · rcases g4 y hy z g with g | g
      · exact .inl (.inr (.inr g))
      · exact .inr g
  refine ⟨o1.trans p1.symm, o2.trans p2.symm, o3.trans p3.symm, ?_, rs', tb', es', ⟨j1.frF f2 fun z hz q => q3 z hz (hdf z q), g1, j2, g2, j3, g5, by omega, c1, c2, q1, fun z hz => ?_, fun z hz q => ?_, q4.new f2 fun z hz q => by have := h.dn z (hdf z q); omega⟩⟩
  · cases hd : d1 with
    | false =>
      have : d2 = false := by rw [p2, ← o2, hd]
      rw [hno hd, dno this]
      exact ⟨[], SlB.nil, SlB.nil⟩
    | true =>
      have hd2 : d2 = true := by rw [p2, ← o2, hd]
      obtain ⟨y, L, y1, y2, y3, y4, y5⟩ := hwh hd
      obtain ⟨y', z1, z2, z3, out, z4, z5, z6⟩ := dwh hd2
      rw [y1] at z1
      cases z1
      have G := (opened h.good y1).add' (off, more, b)
      have GL := G.perm y2.symm
      have hce : cat L = out := by
        refine cat_eq GL y3 ?_ ?_ ?_ fun p hp => z6 p (y2.mem_iff.1 hp)
        · rw [lastE_perm GL.one y2]; exact z2
        · rw [lastE_perm GL.one y2, sum_perm y2]; exact z3
        · rw [lastE_perm GL.one y2]; exact z5
      rw [hce] at y4
      refine ⟨out, y4.fr f2 fun a ha _ q => ?_, z4⟩
      have := y5 a ha
      have := h.d.ltF (hdf _ q)
      omega
  · rcases hdn z hz with g | g
    · exact h.dn z g
    · have := q4.size; omega
  · rcases hdn z q with g | g
    · exact q3 z hz g
    · have := j1.ltF hz; omega
end

theorem jlives_ok {w : World} (a0 a1 a2 : Int) {s : SliceV} {xs : List Dc} (hs : DosAt w s xs) :
    c_law16_JoinLives a0 a1 a2 s w fun r w' => r = true ∧ Ext w w' := by
  apply ok_law16_JoinLives
  unfold s_law16_JoinLives
  refine cm_join_New (jnew_ok a0 a1 a2 w) ?_
  rintro t0 e0 w1 ht
  refine cm_ref16_New (dnew_ok a0 a1 a2 w1) ?_
  rintro x0 f0 w2 hx
  have hall : (Ext w w2) ∧ e0 = f0 ∧ ((t0 = none ∧ x0 = none) ∨ ∃ t m x, newOk a0 a1 a2 ∧ t0 = some ⟨t, 0, none⟩ ∧ x0 = some ⟨x, 0, none⟩ ∧ JD w w2 t m x a0 a1 a2 0 [] [] ⟨none, 0, 0⟩ []) := by
    rcases ht with ⟨hn, rfl, rfl, hw⟩ | ⟨hn, rfl, t, m, rfl, J, n1, n2, f1⟩
    · subst hw
      rcases hx with ⟨_, rfl, rfl, hw⟩ | ⟨h, _⟩
      · subst hw
        exact ⟨Ext.refl _, rfl, .inl ⟨rfl, rfl⟩⟩
      · exact absurd h hn
    · rcases hx with ⟨h, _⟩ | ⟨_, rfl, x, rfl, D, n3, f2⟩
      · exact absurd hn h
      have hz := f1.size
      obtain ⟨⟨u1, u2⟩, ⟨v1, v2⟩, _⟩ := hn
      refine ⟨f1.trans f2, rfl, .inr ⟨t, m, x, ⟨⟨u1, u2⟩, ⟨v1, v2⟩, by assumption⟩, rfl, rfl, ⟨J.ext f2, D, rfl, rfl, fun y hy => by simp at hy, fun y hy => by simp at hy, Nat.le_refl _, v1, u1, fun z hz => ?_, fun z hz => ?_, fun z hz q => ?_, f1.trans f2⟩⟩⟩
      · rcases hz with rfl | rfl | ⟨y, hy, _⟩
        · exact n1
        · exact n2
        · simp at hy
      · rcases hz with rfl | g | ⟨y, hy, _⟩
        · omega
        · exact (no_at g).elim
        · simp at hy
      · have := J.ltF hz
        rcases q with rfl | g | ⟨y, hy, _⟩
        · omega
        · exact (no_at g).elim
        · simp at hy
  clear ht hx
  obtain ⟨f2, rfl, hall⟩ := hall
  intro J11
  have h11 : J11 false := by
    simp -zeta only [J11, cond_false]
    clear J11
    intro J13
    have hT : ∀ W, Ext w W → J13 true W := fun W hW => by
      simp -zeta only [J13, cond_true]
      refine cm_law16_awake (awake16_ok _) ?_
      rintro r w3 ⟨rfl, f3⟩
      exact ⟨rfl, hW.trans f3⟩
    rcases hall with ⟨rfl, rfl⟩ | ⟨t, m, x, hok, rfl, rfl, hD⟩
    · rw [Option.isNone_none, cond_true]
      exact hT w2 f2
    rw [Option.isNone_some, cond_false]
    refine cm_law16_far (jfar_ok (hs.ext f2)) ?_
    rintro r w3 ⟨f3, hfar⟩
    cases r with
    | true => exact hT w3 (f2.trans f3)
    | false =>
    clear hT
    simp -zeta only [J13, cond_false]
    clear J13
    obtain ⟨hn60, hbl⟩ := hfar rfl
    obtain ⟨⟨u1, u2⟩, ⟨v1, v2⟩, t1, t2⟩ := hok
    have hlen := hs.sl.len
    refine LoopP_inv (fun st W => ∃ j : Nat, j ≤ xs.length ∧ st.1 = (j : Int) ∧ ∃ l rs tb es, JD w W t m x a0 a1 a2 j l rs tb es) (fun st _ => (xs.length - st.1).toNat) ⟨0, by omega, rfl, [], [], _, [], hD.more f3⟩ ?_
    rintro ⟨i, ⟨⟩⟩ W ⟨j, hj, hi, l, rs, tb, es, hW⟩ next hnext
    simp only at hi
    subst hi
    by_cases hlt : (j : Int) < (s.len : Int)
    · rw [decide_eq_true hlt, cond_true]
      intro J21
      have h21 : ∀ W' l' rs' tb' es', JD w W' t m x a0 a1 a2 (j + 1) l' rs' tb' es' → J21 W' := by
        intro W' l' rs' tb' es' h'
        simp -zeta only [J21]
        rw [wrap_i64 (by omega) (by omega)]
        exact hnext _ _ ⟨j + 1, by omega, by simp, l', rs', tb', es', h'⟩ (by simp only; omega)
      clear_value J21
      have hx := List.getElem?_eq_getElem (show j < xs.length by omega)
      generalize xs[j] = y at hx
      have hym := List.mem_of_getElem? hx
      have hyb := hbl y hym
      have hynow := hs.now y hym
      refine do_ix (hs.ext hW.ext) hx fun u W1 ru hb eu fu => ?_
      have hW1 := hW.more fu
      have hu1 : ¬ JF t m rs u := fun q => by have := hW.j.ltF q; omega
      simp -zeta only [ex_some, Ld_eq, List.getElem?_cons_zero, List.getElem?_cons_succ, LdV_some, dec_slice, dec_int, dec_bool, dec_str, add_mk, Nat.zero_add, ru.cell]
      by_cases hg : y.1.gone = true
      · rw [hg, cond_true]
        have rud := ru.drew
        simp -zeta only [List.getElem?_cons_zero, List.getElem?_cons_succ, LdV_some, dec_int, rud.cell]
        refine cm_join_Table_Expire (jboth_expire (Kf := fun r w' => (bif !r then False else J21 w')) (hW1.more (Ext.drew _)) (by omega) t1 hynow rud hu1 fun w' rs' tb' es' h' => ?_) ?_
        · rw [Bool.not_true, cond_false]
          exact h21 w' _ rs' tb' es' ⟨h'.j, h'.d, h'.jt, h'.dt, fun z hz => Nat.le_succ_of_le (h'.jl z hz), fun z hz => Nat.le_succ_of_le (h'.dl z hz), Nat.le_succ_of_le h'.cnt, h'.sum, h'.len, h'.jn, h'.dn, h'.dis, h'.ext⟩
        · rintro r1 w4 ⟨hc, hx⟩
          refine ⟨by rw [hc]; rfl, ?_⟩
          refine cm_ref16_Table_Expire hx fun r2 w5 hx => cm_slices_Equal_string_string hx fun r w6 hx => ?_
          cases r with
          | false => exact hx.elim
          | true => exact hx
      · rw [Bool.not_eq_true] at hg
        rw [hg, cond_false]
        have hvs : ∀ a, y.2.a = some a → 0 < y.1.b.length → ¬ JF t m rs a.block := fun a ha h0 q => by
          have := hW.jn _ q
          have := (hs.b y hym).lt ha h0
          omega
        refine cm_join_Table_Add (jboth_add hW1 (by omega) v1 v2 ru hu1 hb hvs (by omega) y.1.key y.1.off y.1.more y.1.head y.1.now) ?_
        rintro h1 all1 d1 e1 w4 ⟨hc, hx⟩
        simp -zeta only [List.getElem?_cons_zero, List.getElem?_cons_succ, LdV_some, dec_slice, dec_int, dec_bool, dec_str, hc]
        refine cm_ref16_Table_Add hx ?_
        rintro h2 all2 d2 e2 w5 ⟨rfl, rfl, rfl, ⟨out, o1, o2⟩, rs', tb', es', h5⟩
        intro J65
        have h65 : ∀ w6, JD w w6 t m x a0 a1 a2 (j + 1) (jadd a0 a1 l y.1.key y.1.off y.1.more y.1.b y.1.head y.1.now).l rs' tb' es' → J65 false w6 := fun w6 h6 => by
          simp -zeta only [J65, cond_false]
          exact h21 w6 _ rs' tb' es' h6
        clear_value J65
        rw [strEqS, decide_eq_true rfl, Bool.not_true, cond_false]
        refine cm_bytes_Equal (equal_ok (o1.ext (Ext.drew _)) (o2.ext (Ext.drew _))) ?_
        rintro r w6 ⟨rfl, hw⟩
        subst hw
        rw [decide_eq_true rfl, Bool.not_true, cond_false, beq_self_eq_true, Bool.not_true, cond_false, bne_self_eq_false, cond_false]
        have h6 := h5.more (Ext.drew _)
        have hsum := h6.sum
        have hcl := h6.cnt
        have hrl : rs'.length = (jadd a0 a1 l y.1.key y.1.off y.1.more y.1.b y.1.head y.1.now).l.length := by have := congrArg List.length h6.jt; unfold jtab at this; rwa [List.length_map] at this
        have hel : es'.length = (jadd a0 a1 l y.1.key y.1.off y.1.more y.1.b y.1.head y.1.now).l.length := by have := congrArg List.length h6.dt; unfold dtab at this; rwa [List.length_map] at this
        refine cm_join_Table_Bytes (jbytes_ok h6.j (by rw [h6.jt]; omega)) ?_
        rintro n1 w7 ⟨rfl, f7⟩
        have h7 := h6.more f7
        refine cm_ref16_Table_Bytes (dbytes_ok h7.d (by rw [h7.dt]; omega) (fun z hz => by have := h7.dl z hz; omega) (by omega)) ?_
        rintro n2 w8 ⟨rfl, hw⟩
        subst hw
        rw [h6.jt, h7.dt, bne_self_eq_false, cond_false]
        simp -zeta only [List.getElem?_cons_zero, LdV_some, dec_slice, h7.d.row.cell]
        refine cm_join_Table_Bufs (jbufs_ok h7.j) ?_
        rintro n w8 ⟨rfl, hw⟩
        subst hw
        refine ⟨by rw [h7.d.row.cell]; rfl, ?_⟩
        rw [show ((rs'.length : Int) != (tb'.len : Int)) = false by have := h7.d.buf.len; simp; omega, cond_false]
        refine cm_join_Table_Keys (keys_ok h7.j (by omega)) ?_
        rintro r1 w8 ⟨f8, b8, n8⟩
        have h8 := h7.more f8
        refine cm_ref16_Table_Keys (dkeys_ok h8.d (by omega)) ?_
        rintro r2 w9 ⟨b9, f9⟩
        have h9 := h8.more f9
        refine cm_slices_Equal_string_string (eqk_ok ((b8.ext f9).sl eK_len (by omega)) (b9.sl eK_len (by omega)) (by rw [jkeys_len, h7.jt]; omega)) ?_
        rintro r w10 ⟨rfl, f10⟩
        rw [h7.jt, h8.dt, decide_eq_true rfl]
        exact h65 w10 (h9.more f10)
    · rw [decide_eq_false hlt, cond_false]
      refine cm_law16_awake (awake16_ok _) ?_
      rintro r w4 ⟨rfl, f4⟩
      exact ⟨rfl, hW.ext.trans f4⟩
  clear_value J11
  rw [bne_self_eq_false, cond_false]
  rcases hall with ⟨rfl, rfl⟩ | ⟨t, m, x, hok, rfl, rfl, hD⟩
  · exact h11
  · exact h11
end Go.Proofs
