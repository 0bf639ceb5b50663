import Derived.Test.YtibalhhdladmbaaV4d
/- Packets of IPv4, part five: quoted ones, and comparing. -/
namespace Go.Proofs
open Gp Gp.V4
set_option maxRecDepth 100000

theorem int_beq (a b : Int) : (a == b) = decide (a = b) := rfl
theorem bool_beq (a b : Bool) : (a == b) = decide (a = b) := by cases a <;> cases b <;> rfl

theorem quoted_ok {w : World} {s : SliceV} {l : List UInt8} (hs : SlB w s l) (hl : l.length ≤ 2 ^ 40) :
    c_v4_Quoted s w fun t i o l' p s' d df mf op da e w' => e = readE l true ∧ PktR w' (V4.read l true) t i o l' p s' d df mf op da ∧ Ext w w' := by
  apply ok_v4_Quoted
  unfold s_v4_Quoted
  have hsl := hs.1
  refine Al_e fun a w1 r1 e1 z1 f1 => ?_
  refine cm_v4_open (open_ok (hs.ext f1) (by omega) true) ?_
  rintro b h z e w2 ⟨rfl, f2, h2⟩
  refine Al_f rfl rfl fun c w3 r3 e3 z3 f3 => ?_
  have x3 := f2.trans f3
  have ra := r1.ext x3
  have hsz3 := x3.size
  by_cases ho : openE l true = 0
  · obtain ⟨rfl, rfl, rfl⟩ := h2 ho
    have hz := open_zero ho
    simp only [cond_false, Ld_eq, List.getElem?_cons_zero, List.getElem?_cons_succ, LdV_some, dec_slice, dec_int, add_mk, Nat.zero_add, Nat.add_zero, r3.cell, ho, show ((0 : Int) != 0) = false from rfl]
    refine cm_v4_reader_packet (packet_ok ((hs.ext f1).ext x3) (by omega) hz.1 hz.2.1 hz.2.2.1) ?_
    rintro _ _ _ _ _ _ _ _ _ op da w6 ⟨⟨rfl, rfl, rfl, rfl, rfl, rfl, rfl, rfl, rfl, hop, hda⟩, no, nd, f6⟩
    refine StN_full (ra.ext f6) rfl rfl fun w9 r9 f9 _ => ?_
    simp only [List.getElem?_cons_zero, List.getElem?_cons_succ, LdV_some, dec_slice, dec_int, dec_bool, r9.cell]
    have rd0 : readE l true = 0 := by unfold readE; rw [ho]; simp
    refine ⟨by rw [rd0], ?_, ((f1.trans x3).trans f6).new (f9 (· = a) rfl) fun y hy e => by omega⟩
    unfold V4.read
    rw [if_pos rd0]
    refine ⟨rfl, rfl, rfl, rfl, rfl, rfl, rfl, rfl, rfl, ?_, ?_⟩
    · exact SlB.fr hop (f9 (· = a) rfl) fun x hx _ e => by have := no x hx; omega
    · exact SlB.fr hda (f9 (· = a) rfl) fun x hx _ e => by have := nd x hx; omega
  · have ho' : (openE l true != 0) = true := by simpa using ho
    simp only [ho', cond_true, Ld_eq, add_mk, Nat.zero_add, Nat.add_zero]
    refine StN_full ra rfl rfl fun w9 r9 f9 _ => ?_
    simp only [List.getElem?_cons_zero, List.getElem?_cons_succ, LdV_some, dec_slice, dec_int, dec_bool, r9.cell]
    have rd0 : readE l true = openE l true := by unfold readE; rw [if_pos ho]
    refine ⟨by rw [rd0], ?_, (f1.trans x3).new (f9 (· = a) rfl) fun y hy e => by omega⟩
    unfold V4.read
    rw [rd0, if_neg ho]
    exact zero_PktR _

theorem equalF_ok {w : World} {a b : Nat} {xs ys : List (Int × Int)} (ha : Row w a (xs.flatMap fcells)) (hb : Row w b (ys.flatMap fcells)) (n m c d : Nat) (hn : n = xs.length) (hm : m = ys.length) (hl : xs.length ≤ 2 ^ 40) (hl2 : ys.length ≤ 2 ^ 40) :
    c_slices_Equal_v4_field_v4_field ⟨some ⟨a, 0, none⟩, n, c⟩ ⟨some ⟨b, 0, none⟩, m, d⟩ w fun r w' => r = decide (xs = ys) ∧ Ext w w' := by
  subst hn hm
  apply ok_slices_Equal_v4_field_v4_field
  unfold s_slices_Equal_v4_field_v4_field
  by_cases hlen : xs.length = ys.length
  · have hlen' : (((xs.length : Nat) : Int) != ((ys.length : Nat) : Int)) = false := by rw [hlen]; simp
    simp only [hlen', cond_false]
    refine LoopP_inv (fun st W => Ext w W ∧ ∃ i : Nat, i ≤ xs.length ∧ st.1 = (i : Int) ∧ xs.take i = ys.take i) (fun st _ => xs.length - st.1.toNat) ⟨Ext.refl _, 0, by omega, rfl, rfl⟩ ?_
    rintro ⟨x, ⟨⟩⟩ W ⟨hx, i, hi, rfl, hp⟩ next hnext
    by_cases hlt : i < xs.length
    · have hlt' : ((i : Int) < (xs.length : Int)) := by omega
      simp only [hlt', decide_true, cond_true]
      have h1 : xs[i]? = some xs[i] := List.getElem?_eq_getElem hlt
      have h2 : ys[i]? = some ys[i] := List.getElem?_eq_getElem (by omega)
      generalize hf : xs[i] = f at h1
      generalize hg : ys[i] = g at h2
      have ra := (ha.ext hx).drew
      have rb := (hb.ext hx).drew
      have a0 : W.drew.cell? ⟨a, i * 2, none⟩ = some (.int .i64 f.1) := by
        have := flat_get fcells 2 fcells_len xs i 0 (by omega)
        rw [Nat.add_zero] at this
        rw [ra.cell, this, h1]; rfl
      have a1 : W.drew.cell? ⟨a, i * 2 + 1, none⟩ = some (.int .i64 f.2) := by
        rw [ra.cell, flat_get fcells 2 fcells_len _ _ 1 (by omega), h1]; rfl
      have b0 : W.drew.cell? ⟨b, i * 2, none⟩ = some (.int .i64 g.1) := by
        have := flat_get fcells 2 fcells_len ys i 0 (by omega)
        rw [Nat.add_zero] at this
        rw [rb.cell, this, h2]; rfl
      have b1 : W.drew.cell? ⟨b, i * 2 + 1, none⟩ = some (.int .i64 g.2) := by
        rw [rb.cell, flat_get fcells 2 fcells_len _ _ 1 (by omega), h2]; rfl
      simp only [Ld_eq, LdV_some, dec_int, AtIx_some, add_mk, Nat.zero_add, Nat.add_zero, Int.toNat_natCast, a0, a1, b0, b1, Bool.and_true]
      refine ⟨by omega, by omega, by omega, by omega, ?_⟩
      by_cases hfg : f = g
      · subst hfg
        simp only [int_beq, decide_true, Bool.and_true, Bool.not_true, cond_false]
        rw [wrap_i64 (by omega) (by omega)]
        refine hnext _ _ ⟨hx.trans (Ext.drew _), i + 1, by omega, by simp, ?_⟩ (by simp only; omega)
        rw [List.take_succ_eq_append_getElem hlt, List.take_succ_eq_append_getElem (by omega), hp, hf, hg]
      · have : ((f.1 == g.1) && (f.2 == g.2)) = false := by
          rw [Bool.and_eq_false_iff]
          by_cases h : f.1 = g.1
          · right; simp only [int_beq]; exact decide_eq_false fun h' => hfg (Prod.ext h h')
          · left; simp only [int_beq]; exact decide_eq_false h
        simp only [this, Bool.not_false, cond_true]
        refine ⟨(decide_eq_false fun h => hfg ?_).symm, hx.trans (Ext.drew _)⟩
        subst h
        rw [← hf, ← hg]
    · have hlt' : ¬ ((i : Int) < (xs.length : Int)) := by omega
      simp only [hlt', decide_false, cond_false]
      rw [List.take_of_length_le (by omega), List.take_of_length_le (by omega)] at hp
      exact ⟨(decide_eq_true hp).symm, hx⟩
  · have hlen' : (((xs.length : Nat) : Int) != ((ys.length : Nat) : Int)) = true := by simp; omega
    simp only [hlen', cond_true]
    exact ⟨(decide_eq_false fun h => hlen (by rw [h])).symm, Ext.refl _⟩

def bareP (p : Pkt) : Pkt := { p with opts := [], data := [] }

set_option maxRecDepth 100000 in
theorem same_ok {w : World} (p q : Pkt) {o d o' d' : SliceV} (ho : SlB w o p.opts) (hd : SlB w d p.data) (ho' : SlB w o' q.opts) (hd' : SlB w d' q.data) :
    c_v4_Same p.tos p.id p.off p.ttl p.proto p.src p.dst p.df p.mf o d q.tos q.id q.off q.ttl q.proto q.src q.dst q.df q.mf o' d' w fun r w' => r = decide (p = q) ∧ Ext w w' := by
  apply ok_v4_Same
  unfold s_v4_Same
  refine Al_e fun a w1 r1 e1 z1 f1 => Al_e fun b w2 r2 e2 z2 f2 => ?_
  have ra := (r1.ext f2).drew
  have rb := r2.drew
  have hab : a ≠ b := by omega
  simp -zeta only [Ld_eq, List.getElem?_cons_zero, List.getElem?_cons_succ, LdV_some, dec_slice, dec_int, dec_bool, add_mk, Nat.zero_add, Nat.add_zero, ra.cell, rb.cell]
  have x2 : Ext w w2.drew := (f1.trans f2).trans (Ext.drew _)
  intro J7
  have hJ : ∀ c e W, Row W c [.int .i64 p.tos, .int .i64 p.id, .int .i64 p.off, .int .i64 p.ttl, .int .i64 p.proto, .int .i64 p.src, .int .i64 p.dst, .bool p.df, .bool p.mf, .slice o.a o.len o.cap, .slice d.a d.len d.cap] →
      Row W e [.int .i64 q.tos, .int .i64 q.id, .int .i64 q.off, .int .i64 q.ttl, .int .i64 q.proto, .int .i64 q.src, .int .i64 q.dst, .bool q.df, .bool q.mf, .slice o'.a o'.len o'.cap, .slice d'.a d'.len d'.cap] →
      Ext w2.drew W → c ≠ e → w2.heap.size ≤ c → w2.heap.size ≤ e → J7 ⟨c, 0, none⟩ ⟨e, 0, none⟩ W := by
    intro c e W rc re hx hce hc he
    simp only [J7, add_mk, Nat.zero_add]
    refine St_row rc rfl (by simp) fun w3 r3 f3 z3 => St_row r3 rfl (by simp) fun w4 r4 f4 z4 => ?_
    have re4 := (re.fr (f3 (· = c) rfl) (by omega)).fr (f4 (· = c) rfl) (by omega)
    refine St_row re4 rfl (by simp) fun w5 r5 f5 z5 => St_row r5 rfl (by simp) fun w6 r6 f6 z6 => ?_
    have rc6 := ((r4.fr (f5 (· = e) rfl) (by omega)).fr (f6 (· = e) rfl) (by omega)).drew
    have re6 := r6.drew
    simp only [List.set_cons_zero, List.set_cons_succ] at rc6 re6
    have hdr : w2.drew.heap.size = w2.heap.size := rfl
    have x6 : Ext w2.drew w6.drew := (hx.new (((f3 (fun b => b = c ∨ b = e) (.inl rfl)).trans (f4 (fun b => b = c ∨ b = e) (.inl rfl)) fun _ _ h => h).trans ((f5 (fun b => b = c ∨ b = e) (.inr rfl)).trans (f6 (fun b => b = c ∨ b = e) (.inr rfl)) fun _ _ h => h) fun _ _ h => h) fun y hy h => by omega).trans (Ext.drew _)
    have xw := x2.trans x6
    simp only [cond_false, List.getElem?_cons_zero, List.getElem?_cons_succ, LdV_some, dec_slice, dec_int, dec_bool, rc6.cell, re6.cell]
    refine cm_v4_fields (fields_ok (bareP p) (o := ⟨none, 0, 0⟩) (d := ⟨none, 0, 0⟩) rfl rfl (by simp [bareP]) (by simp [bareP])) ?_
    rintro _ w7 ⟨g, rfl, r7, f7, _⟩
    simp only [true_and, List.getElem?_cons_zero, List.getElem?_cons_succ, (re6.ext f7).cell]
    refine cm_v4_fields (fields_ok (bareP q) (o := ⟨none, 0, 0⟩) (d := ⟨none, 0, 0⟩) rfl rfl (by simp [bareP]) (by simp [bareP])) ?_
    rintro _ w8 ⟨g', rfl, r8, f8, _⟩
    refine cm_slices_Equal_v4_field_v4_field (equalF_ok (r7.ext f8) r8 _ _ _ _ rfl rfl (Nat.le_of_ble_eq_true rfl) (Nat.le_of_ble_eq_true rfl)) ?_
    rintro _ w9 ⟨rfl, f9⟩
    have x9 := f7.trans (f8.trans f9)
    have rc9 := rc6.ext x9
    have re9 := re6.ext x9
    have xw9 := xw.trans x9
    by_cases c1 : fieldsL (bareP p) = fieldsL (bareP q)
    · simp only [c1, decide_true, cond_true, List.getElem?_cons_zero, List.getElem?_cons_succ, LdV_some, dec_int, rc9.cell, re9.cell, int_beq]
      by_cases c2 : p.off = q.off
      · simp only [c2, decide_true, cond_true]
        by_cases c3 : p.id = q.id
        · simp only [c3, decide_true, cond_true, List.getElem?_cons_zero, List.getElem?_cons_succ, LdV_some, dec_slice, dec_int, dec_bool, rc9.drew.cell, re9.drew.cell]
          have fl1 := flags_ok (w := w9.drew) (bareP p) ⟨none, 0, 0⟩ ⟨none, 0, 0⟩
          rw [show (bareP p).tos = p.tos from rfl, show (bareP p).id = q.id from c3, show (bareP p).off = p.off from rfl, show (bareP p).ttl = p.ttl from rfl, show (bareP p).proto = p.proto from rfl, show (bareP p).src = p.src from rfl, show (bareP p).dst = p.dst from rfl, show (bareP p).df = p.df from rfl, show (bareP p).mf = p.mf from rfl] at fl1
          refine cm_v4_flags fl1 ?_
          rintro _ w10 ⟨rfl, f10⟩
          have re10 := re9.drew.ext f10
          simp only [true_and, List.getElem?_cons_zero, List.getElem?_cons_succ, re10.cell]
          have fl2 := flags_ok (w := w10) (bareP q) ⟨none, 0, 0⟩ ⟨none, 0, 0⟩
          rw [show (bareP q).tos = q.tos from rfl, show (bareP q).id = q.id from rfl, show (bareP q).off = q.off from rfl, show (bareP q).ttl = q.ttl from rfl, show (bareP q).proto = q.proto from rfl, show (bareP q).src = q.src from rfl, show (bareP q).dst = q.dst from rfl, show (bareP q).df = q.df from rfl, show (bareP q).mf = q.mf from rfl] at fl2
          refine cm_v4_flags fl2 ?_
          rintro _ w11 ⟨rfl, f11⟩
          have rc11 := (rc9.drew.ext f10).ext f11
          have re11 := re10.ext f11
          have x11 : Ext w w11 := ((xw9.trans (Ext.drew _)).trans f10).trans f11
          have ra11 := ra.ext ((((x6.trans x9).trans (Ext.drew _)).trans f10).trans f11)
          have rb11 := rb.ext ((((x6.trans x9).trans (Ext.drew _)).trans f10).trans f11)
          by_cases c4 : flagsI (bareP p) = flagsI (bareP q)
          · simp only [c4, decide_true, cond_true, List.getElem?_cons_zero, List.getElem?_cons_succ, LdV_some, dec_bool, rc11.cell, re11.cell, bool_beq]
            by_cases c5 : p.df = q.df
            · simp only [c5, decide_true, cond_true]
              by_cases c6 : p.mf = q.mf
              · simp only [c6, decide_true, cond_true, List.getElem?_cons_zero, List.getElem?_cons_succ, LdV_some, dec_slice, ra11.cell, rb11.cell]
                refine cm_bytes_Equal (equal_ok (ho.ext x11) (ho'.ext x11)) ?_
                rintro _ w12 ⟨rfl, rfl⟩
                by_cases c7 : p.opts = q.opts
                · simp only [c7, decide_true, cond_true, List.getElem?_cons_zero, List.getElem?_cons_succ, LdV_some, dec_slice, ra11.cell, rb11.cell]
                  refine cm_bytes_Equal (equal_ok (hd.ext x11) (hd'.ext x11)) ?_
                  rintro _ w13 ⟨rfl, rfl⟩
                  refine ⟨decide_eq_decide.2 ⟨fun c8 => ?_, fun h => by rw [h]⟩, x11⟩
                  cases p; cases q
                  simp only [fieldsL, bareP, List.cons.injEq, Prod.mk.injEq, and_true] at c1 c2 c3 c5 c6 c7 c8 ⊢
                  simp only [Pkt.mk.injEq]
                  exact ⟨c1.2.1, c3, c2, c1.2.2.2.2.2.1, c1.2.2.2.2.2.2.1, c1.2.2.2.2.2.2.2.2.1, c1.2.2.2.2.2.2.2.2.2, c5, c6, c7, c8⟩
                · simp only [c7, decide_false, cond_false]
                  exact ⟨(decide_eq_false fun h => c7 (by rw [h])).symm, x11⟩
              · simp only [c6, decide_false, cond_false]
                exact ⟨(decide_eq_false fun h => c6 (by rw [h])).symm, x11⟩
            · simp only [c5, decide_false, cond_false]
              exact ⟨(decide_eq_false fun h => c5 (by rw [h])).symm, x11⟩
          · simp only [c4, decide_false, cond_false]
            exact ⟨(decide_eq_false fun h => c4 (by rw [h])).symm, x11⟩
        · simp only [c3, decide_false, cond_false]
          exact ⟨(decide_eq_false fun h => c3 (by rw [h])).symm, xw9.trans (Ext.drew _)⟩
      · simp only [c2, decide_false, cond_false]
        exact ⟨(decide_eq_false fun h => c2 (by rw [h])).symm, xw9.trans (Ext.drew _)⟩
    · simp only [c1, decide_false, cond_false]
      exact ⟨(decide_eq_false fun h => c1 (by rw [h])).symm, xw9.trans (Ext.drew _)⟩
  have hdr : w2.drew.heap.size = w2.heap.size := rfl
  have st : ∀ vs ws : List Value, vs.all isOne = true → ws.all isOne = true → vs.length = 11 → ws.length = 11 → ∀ c e W z, z.length = 11 → Row W c z → Row W e z → c ≠ e → Ext w2.drew W → w2.heap.size ≤ c → w2.heap.size ≤ e → ∀ K : World → Prop,
      (∀ W', Row W' c vs → Row W' e ws → Ext w2.drew W' → K W') → StN vs W ⟨c, 0, none⟩ 0 fun w3 => StN ws w3 ⟨e, 0, none⟩ 0 fun w4 => K w4 := by
    intro vs ws hv hw lv lw c e W z lz hc he hce hx h1 h2 K hK
    refine StN_full hc hv (by omega) fun w3 r3 f3 z3 => StN_full (he.fr (f3 (· = c) rfl) (by omega)) hw (by omega) fun w4 r4 f4 z4 => hK w4 (r3.fr (f4 (· = e) rfl) (by omega)) r4 ?_
    exact hx.new ((f3 (fun b => b = c ∨ b = e) (.inl rfl)).trans (f4 (fun b => b = c ∨ b = e) (.inr rfl)) fun _ _ h => h) fun y hy h => by omega
  refine ⟨?_, ?_⟩
  · refine Al_e fun c w3 r3 e3 z3 f3 => ?_
    simp -zeta only [true_and, List.getElem?_cons_zero, List.getElem?_cons_succ, (ra.ext f3).cell, (rb.ext f3).cell]
    refine Al_e fun e w4 r4 e4 z4 f4 => ?_
    have x4 := f3.trans f4
    simp -zeta only [true_and, List.getElem?_cons_zero, List.getElem?_cons_succ, (ra.ext x4).cell, (rb.ext x4).cell]
    refine StN_full (r3.ext f4) rfl rfl fun w5 r5 f5 z5 => ?_
    have x5 := x4.new (f5 (· = c) rfl) fun y hy e => by omega
    simp -zeta only [true_and, List.getElem?_cons_zero, List.getElem?_cons_succ, (rb.ext x5).cell]
    refine StN_full (r4.fr (f5 (· = c) rfl) (by omega)) rfl rfl fun w6 r6 f6 z6 => ?_
    exact hJ c e w6 (r5.fr (f6 (· = e) rfl) (by omega)) r6 (x5.new (f6 (· = e) rfl) fun y hy e => by omega) (by omega) (by omega) (by omega)
  · refine Al_e fun c w3 r3 e3 z3 f3 => ?_
    simp -zeta only [true_and, List.getElem?_cons_zero, List.getElem?_cons_succ, (ra.ext f3).cell, (rb.ext f3).cell]
    refine Al_e fun e w4 r4 e4 z4 f4 => ?_
    have x4 := f3.trans f4
    simp -zeta only [true_and, List.getElem?_cons_zero, List.getElem?_cons_succ, (ra.ext x4).cell, (rb.ext x4).cell]
    refine StN_full r4 rfl rfl fun w5 r5 f5 z5 => ?_
    have x5 := x4.new (f5 (· = e) rfl) fun y hy e => by omega
    simp -zeta only [true_and, List.getElem?_cons_zero, List.getElem?_cons_succ, (rb.ext x5).cell]
    refine StN_full ((r3.ext f4).fr (f5 (· = e) rfl) (by omega)) rfl rfl fun w6 r6 f6 z6 => ?_
    exact hJ e c w6 (r5.fr (f6 (· = c) rfl) (by omega)) r6 (x5.new (f6 (· = c) rfl) fun y hy e => by omega) (by omega) (by omega) (by omega)
end Go.Proofs
