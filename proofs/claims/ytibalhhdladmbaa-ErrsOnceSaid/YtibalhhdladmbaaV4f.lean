import Derived.Test.YtibalhhdladmbaaV4e
/- Packets of IPv4, part six: the document's functions. -/
namespace Go.Proofs
open Gp Gp.V4
set_option maxRecDepth 100000

theorem rcheck_ok {w : World} (p : Pkt) {o d : SliceV} (ho : o.len = p.opts.length) (hd : d.len = p.data.length) (h1 : p.opts.length ≤ 2 ^ 46) (h2 : p.data.length ≤ 2 ^ 46) :
    c_ref05_Check p.tos p.id p.off p.ttl p.proto p.src p.dst p.df p.mf o d w fun r w' => r = p.check ∧ Ext w w' := by
  apply ok_ref05_Check
  unfold s_ref05_Check
  refine Al_e fun a w1 r1 _ _ f1 => ?_
  intro J4
  have hJ : ∀ b, b = decide (fitsP p.tos 1 ∧ fitsP p.ttl 1 ∧ fitsP p.proto 1 ∧ fitsP p.id 2) → J4 b w1 := by
    rintro b hb
    simp -zeta only [J4]
    intro J7
    have h7 : ∀ c, c = decide ((rightP p.src ∧ rightP p.dst) ∧ (0 ≤ p.off ∧ p.off ≤ 65528 ∧ Int.tmod p.off 8 = 0)) → J7 c w1 := by
      rintro c hc
      simp -zeta only [J7]
      intro J10
      have h10 : ∀ e, e = decide (p.opts.length ≤ 40 ∧ p.opts.length % 4 = 0) → J10 e := by
        rintro e he
        simp -zeta only [J10]
        intro J12
        have h12 : ∀ g, g = (!decide p.fine) → J12 g := by
          rintro g rfl
          simp only [J12, cond_true, Ld_eq, List.getElem?_cons_zero, List.getElem?_cons_succ, LdV_some, dec_slice, dec_int, dec_bool, add_mk, Nat.zero_add, Nat.add_zero, r1.cell]
          by_cases hf : p.fine
          · simp only [hf, decide_true, Bool.not_true, cond_false]
            refine cm_ref05_Size (ref05_size_ok _ _ _ _ _ _ _ _ _ _ _ (show o.len ≤ 2 ^ 60 by omega) (show d.len ≤ 2 ^ 60 by omega) _) ?_
            rintro _ w8 ⟨rfl, f8⟩
            have r9 := r1.ext f8
            simp only [List.getElem?_cons_zero, List.getElem?_cons_succ, LdV_some, dec_slice, dec_int, r9.cell]
            rw [wrap_i64 (by omega) (by omega)]
            by_cases hs : 20 + p.opts.length + p.data.length ≤ 65535
            · have : ¬ (20 + (o.len : Int) + (d.len : Int) > 65535) := by omega
              simp only [this, decide_false, cond_false]
              by_cases hs2 : p.off ≤ 65535 - (p.data.length : Int)
              · have : ¬ (p.off > 65535 - (d.len : Int)) := by omega
                simp only [this, decide_false, cond_false]
                exact ⟨by simp [Pkt.check, hf, Pkt.short, hs, hs2], f1.trans f8⟩
              · have : (p.off > 65535 - (d.len : Int)) := by omega
                simp only [this, decide_true, cond_true]
                exact ⟨by simp [Pkt.check, hf, Pkt.short, hs2], f1.trans f8⟩
            · have : (20 + (o.len : Int) + (d.len : Int) > 65535) := by omega
              simp only [this, decide_true, cond_true]
              exact ⟨by simp [Pkt.check, hf, Pkt.short, hs], f1.trans f8⟩
          · simp only [hf, decide_false, Bool.not_false, cond_true]
            exact ⟨by simp [Pkt.check, hf], f1⟩
        cases b with
        | false =>
          simp only [Bool.not_false, cond_true]
          exact h12 _ (by rw [decide_eq_false fun h : p.fine => (of_decide_eq_false hb.symm) h.1]; rfl)
        | true =>
        cases c with
        | false =>
          simp only [Bool.not_true, Bool.not_false, cond_false, cond_true]
          exact h12 _ (by rw [decide_eq_false fun h : p.fine => (of_decide_eq_false hc.symm) ⟨h.2.1, h.2.2.1.1, h.2.2.1.2.1, h.2.2.1.2.2.1⟩]; rfl)
        | true =>
        cases e with
        | false =>
          simp only [Bool.not_true, Bool.not_false, cond_false, cond_true]
          exact h12 _ (by rw [decide_eq_false fun h : p.fine => (of_decide_eq_false he.symm) h.2.2.2]; rfl)
        | true =>
        have hb' := of_decide_eq_true hb.symm
        have hc' := of_decide_eq_true hc.symm
        have he' := of_decide_eq_true he.symm
        simp -zeta only [Bool.not_true, cond_false, Ld_eq, List.getElem?_cons_zero, List.getElem?_cons_succ, LdV_some, dec_slice, dec_bool, add_mk, Nat.zero_add, r1.cell]
        cases hm : p.mf with
        | false =>
          simp only [cond_false]
          have hfine : p.fine := ⟨hb', hc'.1, ⟨hc'.2.1, hc'.2.2.1, hc'.2.2.2, fun h => by rw [hm] at h; cases h⟩, he'⟩
          exact h12 _ (by rw [decide_eq_true hfine]; rfl)
        | true =>
          simp only [cond_true]
          refine ⟨by omega, h12 _ ?_⟩
          rw [hd, Int.tmod_eq_emod_of_nonneg (by omega)]
          by_cases hx : p.data.length % 8 = 0
          · have hfine : p.fine := ⟨hb', hc'.1, ⟨hc'.2.1, hc'.2.2.1, hc'.2.2.2, fun _ => hx⟩, he'⟩
            rw [decide_eq_true hfine]
            simp; omega
          · have hfine : ¬ p.fine := fun h => hx (h.2.2.1.2.2.2 hm)
            rw [decide_eq_false hfine]
            simp; omega
      simp -zeta only [Ld_eq, List.getElem?_cons_zero, List.getElem?_cons_succ, LdV_some, dec_slice, add_mk, Nat.zero_add, r1.cell]
      by_cases hx : p.opts.length ≤ 40
      · have : ((o.len : Int) ≤ 40) := by omega
        simp -zeta only [this, decide_true, cond_true]
        refine ⟨by omega, h10 _ ?_⟩
        rw [ho, Int.tmod_eq_emod_of_nonneg (by omega), int_beq]
        exact decide_eq_decide.2 ⟨fun h => ⟨hx, by omega⟩, fun h => by omega⟩
      · have : ¬ ((o.len : Int) ≤ 40) := by omega
        simp -zeta only [this, decide_false, cond_false]
        exact h10 _ (decide_eq_false fun h => hx h.1).symm
    simp -zeta only [Ld_eq, List.getElem?_cons_zero, List.getElem?_cons_succ, LdV_some, dec_int, add_mk, Nat.zero_add, r1.cell]
    refine cm_ref03_Right (ref03_right _ _) ?_
    rintro _ W ⟨rfl, hW⟩; subst hW
    by_cases c1 : rightP p.src
    · simp -zeta only [c1, decide_true, cond_true, List.getElem?_cons_zero, List.getElem?_cons_succ, LdV_some, dec_int, r1.cell]
      refine cm_ref03_Right (ref03_right _ _) ?_
      rintro _ W ⟨rfl, hW⟩; subst hW
      by_cases c2 : rightP p.dst
      · simp -zeta only [c2, decide_true, cond_true, List.getElem?_cons_zero, List.getElem?_cons_succ, LdV_some, dec_int, r1.cell]
        by_cases c3 : p.off ≥ 0
        · simp -zeta only [c3, decide_true, cond_true]
          by_cases c4 : p.off ≤ 65528
          · simp -zeta only [c4, decide_true, cond_true]
            refine ⟨by omega, h7 _ ?_⟩
            rw [int_beq]
            exact decide_eq_decide.2 ⟨fun h => ⟨⟨c1, c2⟩, c3, c4, h⟩, fun h => h.2.2.2⟩
          · simp -zeta only [c4, decide_false, cond_false]
            exact h7 _ (decide_eq_false fun h => c4 h.2.2.1).symm
        · simp -zeta only [c3, decide_false, cond_false]
          exact h7 _ (decide_eq_false fun h => c3 h.2.1).symm
      · simp -zeta only [c2, decide_false, cond_false]
        exact h7 _ (decide_eq_false fun h => c2 h.1.2).symm
    · simp -zeta only [c1, decide_false, cond_false]
      exact h7 _ (decide_eq_false fun h => c1 h.1.1).symm
  simp -zeta only [Ld_eq, List.getElem?_cons_zero, LdV_some, dec_int, add_mk, Nat.zero_add, r1.cell]
  refine cm_ref01_Fits (rfits_ok _ _ _) ?_
  rintro _ W ⟨rfl, hW⟩; subst hW
  by_cases c1 : fitsP p.tos 1
  · simp -zeta only [c1, decide_true, cond_true, List.getElem?_cons_zero, List.getElem?_cons_succ, LdV_some, dec_int, r1.cell]
    refine cm_ref01_Fits (rfits_ok _ _ _) ?_
    rintro _ W ⟨rfl, hW⟩; subst hW
    by_cases c2 : fitsP p.ttl 1
    · simp -zeta only [c2, decide_true, cond_true, List.getElem?_cons_zero, List.getElem?_cons_succ, LdV_some, dec_int, r1.cell]
      refine cm_ref01_Fits (rfits_ok _ _ _) ?_
      rintro _ W ⟨rfl, hW⟩; subst hW
      by_cases c3 : fitsP p.proto 1
      · simp -zeta only [c3, decide_true, cond_true, List.getElem?_cons_zero, List.getElem?_cons_succ, LdV_some, dec_int, r1.cell]
        refine cm_ref01_Fits (rfits_ok _ _ _) ?_
        rintro _ W ⟨rfl, hW⟩; subst hW
        exact hJ _ (decide_eq_decide.2 ⟨fun h => ⟨c1, c2, c3, h⟩, fun h => h.2.2.2⟩)
      · simp -zeta only [c3, decide_false, cond_false]
        exact hJ _ (decide_eq_false fun h => c3 h.2.2.1).symm
    · simp -zeta only [c2, decide_false, cond_false]
      exact hJ _ (decide_eq_false fun h => c2 h.2.1).symm
  · simp -zeta only [c1, decide_false, cond_false]
    exact hJ _ (decide_eq_false fun h => c1 h.1).symm

theorem putL_fits {l : List UInt8} {n k : Nat} (h : fitsP (n : Int) (k : Int)) : putL l (n : Int) (k : Int) = l ++ beN k n := by simp [putL, h]

theorem beN_one (n : Nat) : beN 1 n = [UInt8.ofNat n] := by simp [beN]

theorem u8_of {n : Nat} : IntKind.u8.wrap (n : Int) = ((UInt8.ofNat n).toNat : Int) := by
  rw [IntKind.wrap_u8]; simp

theorem rhead_ok {w : World} {p : Pkt} (hc : p.check = 0) {o d : SliceV} (ho : SlB w o p.opts) (hd : d.len = p.data.length) {z s : Nat} (hz : z = 20 + p.opts.length + p.data.length) (hs : s < 65536) :
    c_ref05_head p.tos p.id p.off p.ttl p.proto p.src p.dst p.df p.mf o d (z : Int) (s : Int) w fun r w' => Buf w' r (bytesV (p.head s)) ∧ Ext w w' ∧ ∀ b, SliceV.at r b → w.heap.size ≤ b := by
  apply ok_ref05_head
  unfold s_ref05_head
  obtain ⟨hf, hsh⟩ := check_zero hc
  have hbl := bits_lt hf
  obtain ⟨⟨g1, g2, g3, g4⟩, ⟨q1, q2⟩, ⟨o1, o2, o3, o4⟩, p1, p2⟩ := id hf
  have g1' := fits1 g1
  have g2' := fits1 g2
  have g3' := fits1 g3
  have g4' := fits2 g4
  have hsh1 := hsh.1
  refine Al_e fun a w1 r1 e1 _ f1 => ?_
  simp -zeta only [Ld_eq, List.getElem?_cons_zero, List.getElem?_cons_succ, LdV_some, dec_int, dec_bool, add_mk, Nat.zero_add, Nat.add_zero, r1.cell]
  refine ⟨by omega, ?_⟩
  intro J7
  have main : ∀ j8 : Int, (bif p.mf then IntKind.i64.wrap (j8 + 8192) else j8) = (p.bits : Int) → J7 j8 := by
    intro j8 hj8
    simp -zeta only [J7]
    intro J9
    have m9 : ∀ j10, j10 = (p.bits : Int) → J9 j10 := by
      rintro _ rfl
      have r1d := r1.drew
      simp only [J9, List.getElem?_cons_zero, List.getElem?_cons_succ, LdV_some, dec_slice, dec_int, dec_bool, r1d.cell]
      refine cm_ref05_Head (ref05_head_ok _ _ _ _ _ _ _ _ _ _ _ (show o.len ≤ 2 ^ 60 by have := ho.1; omega) _) ?_
      rintro _ w2 ⟨rfl, f2⟩
      have r2 := r1d.ext f2
      simp only [true_and, List.getElem?_cons_zero, r2.cell]
      refine ⟨by omega, Al_e fun b w3 r3 e3 _ f3 => ?_⟩
      have ol := ho.1
      rw [Int.tdiv_eq_ediv_of_nonneg (by omega), wrap_i64 (n := (20 + (o.len : Int)) / 4) (by omega) (by omega), wrap_i64 (n := 64 + (20 + (o.len : Int)) / 4) (by omega) (by omega)] at r3
      have e64 : (64 + (20 + (o.len : Int)) / 4) = ((64 + (20 + p.opts.length) / 4 : Nat) : Int) := by omega
      obtain ⟨t, ht⟩ : ∃ t : Nat, p.tos = (t : Int) := ⟨p.tos.toNat, by omega⟩
      rw [e64, u8_of, ht, u8_of] at r3
      have b3 : Buf w3 ⟨some ⟨b, 0, none⟩, 2, 2⟩ (bytesV (beN 1 (64 + (20 + p.opts.length) / 4) ++ beN 1 p.tos.toNat)) := by
        rw [beN_one, beN_one, ht]
        exact SlB.row (l := [UInt8.ofNat (64 + (20 + p.opts.length) / 4), UInt8.ofNat t]) (by simpa [bytesV] using r3)
      have hdr : w1.drew.heap.size = w1.heap.size := rfl
      have s2 := f2.size
      have s1 := f1.size
      have r3a := (r2.ext f3).drew
      simp only [List.getElem?_cons_zero, List.getElem?_cons_succ, LdV_some, dec_int, r3a.cell]
      have b3d : SlB w3.drew ⟨some ⟨b, 0, none⟩, 2, 2⟩ _ := (SlB.of_buf b3).ext (Ext.drew _)
      have put : ∀ {W : World} {t : SliceV} {l : List UInt8} (n : Int) (k : Nat), SlB W t l → l.length ≤ 100 → fitsP n (k : Int) → n < 2 ^ 62 → c_ref01_Put t n (k : Int) W fun r w' => Buf w' r (bytesV (l ++ beN k n.toNat)) ∧ Ext W w' ∧ (∀ b, SliceV.at r b → W.heap.size ≤ b) := by
        intro W t l n k h1 h2 h3 h4
        refine cm_ref01_Put (rput_ok h1 (by omega) n (k : Int) h4) ?_
        rintro r w' ⟨h5, h6, h7⟩
        refine ⟨?_, h6, h7⟩
        simpa [putL, h3] using h5
      have m2 : fitsP ((z : Nat) : Int) (2 : Nat) := ⟨⟨by omega, by omega⟩, by omega, by simp; omega⟩
      have m3 : fitsP ((p.bits : Nat) : Int) (2 : Nat) := ⟨⟨by omega, by omega⟩, by omega, by simp; omega⟩
      have m4 : fitsP ((s : Nat) : Int) (2 : Nat) := ⟨⟨by omega, by omega⟩, by omega, by simp; omega⟩
      have m5 : fitsP p.src (4 : Nat) := ⟨⟨by omega, by omega⟩, q1.1, by have := q1.2; simp; omega⟩
      have m6 : fitsP p.dst (4 : Nat) := ⟨⟨by omega, by omega⟩, q2.1, by have := q2.2; simp; omega⟩
      have q1' := q1.2
      have q2' := q2.2
      refine cm_ref01_Put (put (z : Int) 2 b3d (by simp [beN_len]) m2 (by omega)) ?_
      rintro t4 w4 ⟨b4, f4, _⟩
      simp only [true_and, List.getElem?_cons_zero, List.getElem?_cons_succ, (r3a.ext f4).cell]
      refine cm_ref01_Put (put p.id 2 (SlB.of_buf b4) (by simp [beN_len]) g4 (by omega)) ?_
      rintro t5 w5 ⟨b5, f5, _⟩
      refine cm_ref01_Put (put (p.bits : Int) 2 (SlB.of_buf b5) (by simp [beN_len]) m3 (by omega)) ?_
      rintro t6 w6 ⟨b6, f6, n6⟩
      have r6 := ((r3a.ext f4).ext f5).ext f6
      simp only [List.getElem?_cons_zero, List.getElem?_cons_succ, LdV_some, dec_int, r6.cell]
      refine Al_e fun c w7 r7 e7 _ f7 => ?_
      obtain ⟨u, hu⟩ : ∃ u : Nat, p.ttl = (u : Int) := ⟨p.ttl.toNat, by omega⟩
      obtain ⟨v, hv⟩ : ∃ v : Nat, p.proto = (v : Int) := ⟨p.proto.toNat, by omega⟩
      rw [hu, hv, u8_of, u8_of] at r7
      have b7 : SlB w7 ⟨some ⟨c, 0, none⟩, 2, 2⟩ (beN 1 p.ttl.toNat ++ beN 1 p.proto.toNat) := by
        rw [beN_one, beN_one, hu, hv]
        exact SlB.of_buf (SlB.row (l := [UInt8.ofNat u, UInt8.ofNat v]) (by simpa [bytesV] using r7))
      refine AppSl_bytes (b6.ext f7) b7 (by simp [beN_len]) fun t8 w8 b8 f8 n8 _ => ?_
      have s3 := f3.size
      have s4 := f4.size
      have s5 := f5.size
      have s6 := f6.size
      have s7 := f7.size
      have hdr3 : w3.drew.heap.size = w3.heap.size := rfl
      have x3 : Ext w w3.drew := ((f1.trans (Ext.drew _)).trans f2).trans (f3.trans (Ext.drew _))
      have x7 : Ext w3.drew w7 := ((f4.trans f5).trans f6).trans f7
      have x8 : Ext w3.drew w8 := x7.new f8 fun y hy h => by have := n6 y h; omega
      refine cm_ref01_Put (put (s : Int) 2 (SlB.of_buf b8) (by simp [beN_len]) m4 (by omega)) ?_
      rintro t9 w9 ⟨b9, f9, _⟩
      have r9 := (r3a.ext (x8.trans f9)).drew
      simp only [List.getElem?_cons_zero, List.getElem?_cons_succ, LdV_some, dec_int, r9.cell]
      refine cm_ref01_Put (put p.src 4 ((SlB.of_buf b9).ext (Ext.drew _)) (by simp [beN_len]) m5 (by omega)) ?_
      rintro t10 w10 ⟨b10, f10, _⟩
      simp only [true_and, List.getElem?_cons_zero, List.getElem?_cons_succ, (r9.ext f10).cell]
      refine cm_ref01_Put (put p.dst 4 (SlB.of_buf b10) (by simp [beN_len]) m6 (by omega)) ?_
      rintro t11 w11 ⟨b11, f11, n11⟩
      have r11 := (r9.ext f10).ext f11
      simp only [List.getElem?_cons_zero, List.getElem?_cons_succ, LdV_some, dec_slice, r11.cell]
      have x11 : Ext w w11 := (x3.trans x8).trans ((f9.trans (Ext.drew _)).trans (f10.trans f11))
      refine AppSl_bytes b11 (ho.ext x11) (by simp [beN_len]; omega) fun t12 w12 b12 f12 n12 _ => ?_
      have s11 := x11.size
      have s10 : w.heap.size ≤ w10.heap.size := ((x3.trans x8).trans ((f9.trans (Ext.drew _)).trans f10)).size
      refine ⟨?_, x11.new f12 fun y hy h => by have := n11 y h; omega, fun y hy => ?_⟩
      · have : p.head s = beN 1 (64 + (20 + p.opts.length) / 4) ++ beN 1 p.tos.toNat ++ beN 2 ((z : Int)).toNat ++ beN 2 p.id.toNat ++ beN 2 ((p.bits : Int)).toNat ++ (beN 1 p.ttl.toNat ++ beN 1 p.proto.toNat) ++ beN 2 ((s : Int)).toNat ++ beN 4 p.src.toNat ++ beN 4 p.dst.toNat ++ p.opts := by
          rw [Int.toNat_natCast, Int.toNat_natCast, Int.toNat_natCast, hz]
          simp only [Pkt.head, List.append_assoc]
        rw [this]
        exact b12
      · rcases n12 y hy with h | h
        · have := n11 y h; omega
        · omega
    cases hm : p.mf with
    | false => rw [hm] at hj8; exact m9 _ hj8
    | true => rw [hm] at hj8; exact m9 _ hj8
  have e0 : Int.tdiv p.off 8 = ((p.off.toNat / 8 : Nat) : Int) := by rw [Int.tdiv_eq_ediv_of_nonneg o1]; omega
  simp -zeta only [e0]
  have hq : p.off.toNat / 8 < 8192 := by omega
  rw [wrap_i64 (n := ((p.off.toNat / 8 : Nat) : Int)) (by omega) (by omega)]
  cases hdf : p.df with
  | false =>
    refine main _ ?_
    cases hm : p.mf with
    | false => simp [Pkt.bits, hdf, hm]
    | true => simp only [cond_true]; rw [wrap_i64 (by omega) (by omega)]; simp [Pkt.bits, hdf, hm]
  | true =>
    refine main _ ?_
    rw [wrap_i64 (n := _ + 16384) (by omega) (by omega)]
    cases hm : p.mf with
    | false => simp [Pkt.bits, hdf, hm]
    | true => simp only [cond_true]; rw [wrap_i64 (by omega) (by omega)]; simp [Pkt.bits, hdf, hm]
end Go.Proofs
