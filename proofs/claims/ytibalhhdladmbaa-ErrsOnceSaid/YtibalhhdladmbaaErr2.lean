import Derived.Test.YtibalhhdladmbaaErr
/- What is told of faults, part two. -/
namespace Go.Proofs
open Gp Gp.V4
set_option maxRecDepth 100000

theorem plain_ok {w : World} (p : Pkt) {o d : SliceV} (hd : SlB w d p.data) : c_errs_plain p.tos p.id p.off p.ttl p.proto p.src p.dst p.df p.mf o d w fun r w' => r = plainB p ∧ Ext w w' := by
  apply ok_errs_plain
  unfold s_errs_plain
  refine Al_e fun a w1 r1 e1 z1 f1 => ?_
  simp only [Ld_eq, List.getElem?_cons_zero, List.getElem?_cons_succ, LdV_some, dec_slice, dec_int, add_mk, Nat.zero_add, r1.cell]
  have dl := hd.1
  unfold plainB
  by_cases hp : p.proto = 1
  · have : (p.proto != 1) = false := by simp [hp]
    simp only [this, cond_false, if_pos hp]
    cases hdd : p.data with
    | nil =>
      have : ¬ ((d.len : Int) > 0) := by rw [dl, hdd]; simp
      simp only [this, decide_false, cond_false]
      exact ⟨by trivial, f1⟩
    | cons x xs =>
      have h0 : 0 < p.data.length := by rw [hdd]; simp
      have : ((d.len : Int) > 0) := by omega
      simp only [this, decide_true, cond_true]
      refine byte_at (i := 0) (hd.ext f1) h0 fun a0 hc0 _ => ?_
      have ex : p.data[0] = x := by simp [hdd]
      rw [ex] at hc0
      have := x.toNat_lt
      simp only [LdV_some, dec_int, hc0]
      rw [wrap_i64 (by omega) (by omega)]
      refine cm_icmp_Fault (fault_ok _ _) ?_
      rintro _ w2 ⟨rfl, f2⟩
      exact ⟨by trivial, f1.trans f2⟩
  · have : (p.proto != 1) = true := by simpa using hp
    simp only [this, cond_true, if_neg hp]
    exact ⟨by trivial, f1⟩

/-- The results are this packet, but for its bytes. -/
def PktL (q : Pkt) (t i o l p s d : Int) (df mf : Bool) (op da : SliceV) : Prop :=
  t = q.tos ∧ i = q.id ∧ o = q.off ∧ l = q.ttl ∧ p = q.proto ∧ s = q.src ∧ d = q.dst ∧ df = q.df ∧ mf = q.mf ∧ op.len = q.opts.length ∧ da.len = q.data.length

theorem eopen_ok {w : World} {s : SliceV} {l : List UInt8} (hs : SlB w s l) (hl : l.length ≤ 2 ^ 40) :
    c_errs_open s w fun t i o l' p s' d df mf op da f w' => f = mayB l ∧ (mayB l = true → PktL (field l) t i o l' p s' d df mf op da) ∧ Ext w w' := by
  apply ok_errs_open
  unfold s_errs_open
  refine Al_e fun a w1 r1 e1 z1 f1 => ?_
  refine cm_v4_Quoted (quoted_ok (hs.ext f1) hl) ?_
  rintro _ _ _ _ _ _ _ _ _ op da _ w2 ⟨rfl, ⟨rfl, rfl, rfl, rfl, rfl, rfl, rfl, rfl, rfl, hop, hda⟩, f2⟩
  refine Al_f rfl rfl fun b w3 r3 e3 z3 f3 => ?_
  have x3 : Ext w1 w3 := f2.trans f3
  have fin : ∀ W, Ext w1 W → mayB l = false → StN [(Value.int .i64 0), (Value.int .i64 0), (Value.int .i64 0), (Value.int .i64 0), (Value.int .i64 0), (Value.int .i64 0), (Value.int .i64 0), (Value.bool false), (Value.bool false), (Value.slice none 0 0), (Value.slice none 0 0)] W ⟨a, 0, none⟩ 0 fun w28 =>
      LdV (.int .i64) (w28.cell? ⟨a, 0, none⟩) fun y1 => LdV (.int .i64) (w28.cell? ⟨a, 1, none⟩) fun y2 => LdV (.int .i64) (w28.cell? ⟨a, 2, none⟩) fun y3 => LdV (.int .i64) (w28.cell? ⟨a, 3, none⟩) fun y4 => LdV (.int .i64) (w28.cell? ⟨a, 4, none⟩) fun y5 =>
      LdV (.int .i64) (w28.cell? ⟨a, 5, none⟩) fun y6 => LdV (.int .i64) (w28.cell? ⟨a, 6, none⟩) fun y7 => LdV .bool (w28.cell? ⟨a, 7, none⟩) fun y8 => LdV .bool (w28.cell? ⟨a, 8, none⟩) fun y9 => LdV .slice (w28.cell? ⟨a, 9, none⟩) fun y10 => LdV .slice (w28.cell? ⟨a, 10, none⟩) fun y11 =>
      (false = mayB l ∧ (mayB l = true → PktL (field l) y1 y2 y3 y4 y5 y6 y7 y8 y9 y10 y11) ∧ Ext w w28) := by
    intro W hx he
    refine StN_full (r1.ext hx) rfl rfl fun w28 r28 f28 _ => ?_
    simp only [List.getElem?_cons_zero, List.getElem?_cons_succ, LdV_some, dec_slice, dec_int, dec_bool, r28.cell]
    exact ⟨he.symm, (by intro h; rw [he] at h; cases h), (f1.trans hx).new (f28 (· = a) rfl) fun y hy e => by omega⟩
  by_cases c1 : readE l true = 0
  · have rd : V4.read l true = field l := by unfold V4.read; rw [if_pos c1]
    rw [rd] at hop hda r3
    simp only [c1, show ((0 : Int) != 0) = false from rfl, cond_false, Ld_eq, List.getElem?_cons_zero, List.getElem?_cons_succ, LdV_some, dec_int, add_mk, Nat.zero_add, Nat.add_zero, r3.cell]
    by_cases c2 : (field l).off ≤ 0
    · have c2' : ¬ ((field l).off > 0) := by omega
      simp only [c2', decide_false, cond_false]
      refine cm_four_Host (host_ok _ _) ?_
      rintro _ w4 ⟨rfl, f4⟩
      by_cases c3 : hostP (field l).src
      · simp only [c3, decide_true, Bool.not_true, cond_false, List.getElem?_cons_zero, List.getElem?_cons_succ, LdV_some, dec_int, (r3.ext f4).cell]
        refine cm_four_Host (host_ok _ _) ?_
        rintro _ w5 ⟨rfl, f5⟩
        have x5 : Ext w3 w5.drew := (f4.trans f5).trans (Ext.drew _)
        by_cases c4 : hostP (field l).dst
        · simp only [c4, decide_true, Bool.not_true, cond_false, List.getElem?_cons_zero, List.getElem?_cons_succ, LdV_some, dec_slice, dec_int, dec_bool, (r3.ext x5).cell]
          refine cm_errs_plain (plain_ok (field l) (o := op) (d := da) ((hda.ext f3).ext x5)) ?_
          rintro _ w6 ⟨rfl, f6⟩
          simp only [true_and, List.getElem?_cons_zero, List.getElem?_cons_succ, (r3.ext (x5.trans f6)).cell]
          have x6 := x3.trans (x5.trans f6)
          refine StN_full (r1.ext x6) rfl rfl fun w7 r7 f7 _ => ?_
          simp only [List.getElem?_cons_zero, List.getElem?_cons_succ, LdV_some, dec_slice, dec_int, dec_bool, r7.cell]
          refine ⟨by simp [mayB, c1, c2, c3, c4], fun _ => ⟨rfl, rfl, rfl, rfl, rfl, rfl, rfl, rfl, rfl, hop.1, hda.1⟩, (f1.trans x6).new (f7 (· = a) rfl) fun y hy e => by omega⟩
        · simp only [c4, decide_false, Bool.not_false, cond_true]
          exact fin w5 (x3.trans (f4.trans f5)) (Bool.eq_false_iff.2 fun h => c4 (mayB_iff.1 h).2.2.2.1)
      · simp only [c3, decide_false, Bool.not_false, cond_true]
        exact fin w4 (x3.trans f4) (Bool.eq_false_iff.2 fun h => c3 (mayB_iff.1 h).2.2.1)
    · have c2' : ((field l).off > 0) := by omega
      simp only [c2', decide_true, cond_true]
      exact fin w3 x3 (Bool.eq_false_iff.2 fun h => c2 (mayB_iff.1 h).2.1)
  · have c1' : (readE l true != 0) = true := by simpa using c1
    simp only [c1', cond_true, Ld_eq, add_mk, Nat.zero_add, Nat.add_zero]
    exact fin w3 x3 (Bool.eq_false_iff.2 fun h => c1 (mayB_iff.1 h).1)

theorem may_ok {w : World} {s : SliceV} {l : List UInt8} (hs : SlB w s l) (hl : l.length ≤ 2 ^ 40) : c_errs_May s w fun r w' => r = mayB l ∧ Ext w w' := by
  apply ok_errs_May
  unfold s_errs_May
  refine cm_errs_open (eopen_ok hs hl) ?_
  rintro _ _ _ _ _ _ _ _ _ _ _ _ w1 ⟨rfl, _, f1⟩
  refine Al_f rfl rfl fun b w2 r2 e2 z2 f2 => ?_
  exact And.intro (Eq.refl _) (f1.trans f2)

theorem rmay_ok {w : World} {s : SliceV} {l : List UInt8} (hs : SlB w s l) (hl : l.length ≤ 2 ^ 40) : c_ref28_May s w fun r w' => r = mayB l ∧ Ext w w' := by
  apply ok_ref28_May
  unfold s_ref28_May
  refine cm_ref05_Quoted (rquoted_ok hs hl) ?_
  rintro _ _ _ _ _ _ _ _ _ op da _ w2 ⟨rfl, ⟨rfl, rfl, rfl, rfl, rfl, rfl, rfl, rfl, rfl, hop, hda⟩, f2⟩
  refine Al_f rfl rfl fun b w3 r3 e3 z3 f3 => ?_
  have x3 := f2.trans f3
  by_cases c1 : readE l true = 0
  · have rd : V4.read l true = field l := by unfold V4.read; rw [if_pos c1]
    rw [rd] at hop hda r3
    simp only [c1, show ((0 : Int) != 0) = false from rfl, cond_false, cond_true, Ld_eq, List.getElem?_cons_zero, List.getElem?_cons_succ, LdV_some, dec_slice, dec_int, add_mk, Nat.zero_add, r3.cell]
    by_cases c2 : (field l).off ≤ 0
    · have c2' : ¬ ((field l).off > 0) := by omega
      simp only [c2', decide_false, cond_false]
      refine cm_ref03_Host (rhost_ok _ _) ?_
      rintro _ w4 ⟨rfl, hw⟩
      subst hw
      by_cases c3 : hostP (field l).src
      · simp only [c3, decide_true, Bool.not_true, cond_false, List.getElem?_cons_zero, List.getElem?_cons_succ, LdV_some, dec_int, r3.cell]
        refine cm_ref03_Host (rhost_ok _ _) ?_
        rintro _ w4 ⟨rfl, hw⟩
        subst hw
        by_cases c4 : hostP (field l).dst
        · simp only [c4, decide_true, Bool.not_true, cond_false, List.getElem?_cons_zero, List.getElem?_cons_succ, LdV_some, dec_slice, dec_int, r3.cell]
          have hm : mayB l = plainB (field l) := by simp [mayB, c1, c2, c3, c4]
          rw [hm]
          unfold plainB
          by_cases hp : (field l).proto = 1
          · have : ((field l).proto != 1) = false := by simp [hp]
            simp only [this, cond_false, if_pos hp]
            have dl := hda.1
            cases hdd : (field l).data with
            | nil =>
              have : ¬ ((da.len : Int) > 0) := by rw [dl, hdd]; simp
              simp only [this, decide_false, cond_false]
              exact ⟨by trivial, x3⟩
            | cons x xs =>
              have h0 : 0 < (field l).data.length := by rw [hdd]; simp
              have : ((da.len : Int) > 0) := by omega
              simp only [this, decide_true, cond_true]
              refine byte_at (i := 0) (hda.ext f3) h0 fun a0 hc0 _ => ?_
              have ex : (field l).data[0] = x := by simp [hdd]
              rw [ex] at hc0
              have := x.toNat_lt
              simp only [LdV_some, dec_int, hc0]
              rw [wrap_i64 (by omega) (by omega)]
              refine cm_ref09_Fault (rfault_ok _ _) ?_
              rintro _ w5 ⟨rfl, hw⟩
              subst hw
              exact ⟨by trivial, x3⟩
          · have : ((field l).proto != 1) = true := by simpa using hp
            simp only [this, cond_true, if_neg hp]
            exact ⟨by trivial, x3⟩
        · simp only [c4, decide_false, Bool.not_false, cond_true]
          exact ⟨(Bool.eq_false_iff.2 fun h => c4 (mayB_iff.1 h).2.2.2.1).symm, x3⟩
      · simp only [c3, decide_false, Bool.not_false, cond_true]
        exact ⟨(Bool.eq_false_iff.2 fun h => c3 (mayB_iff.1 h).2.2.1).symm, x3⟩
    · have c2' : ((field l).off > 0) := by omega
      simp only [c2', decide_true, cond_true]
      exact ⟨(Bool.eq_false_iff.2 fun h => c2 (mayB_iff.1 h).2.1).symm, x3⟩
  · have c1' : (readE l true != 0) = true := by simpa using c1
    simp only [c1', cond_true]
    exact ⟨(Bool.eq_false_iff.2 fun h => c1 (mayB_iff.1 h).1).symm, x3⟩

theorem quote_ok {w : World} {s o d : SliceV} {l : List UInt8} (hs : SlB w s l) (hl : l.length ≤ 2 ^ 40) (p : Pkt) (ho : o.len = p.opts.length) (hd : d.len = p.data.length) (h1 : p.size ≤ l.length) :
    c_errs_quote s p.tos p.id p.off p.ttl p.proto p.src p.dst p.df p.mf o d w fun r w' => Buf w' r (bytesV (l.take (min p.size 548))) ∧ Ext w w' := by
  apply ok_errs_quote
  unfold s_errs_quote
  refine Al_e fun a w1 r1 e1 z1 f1 => ?_
  have hz : p.size = 20 + p.opts.length + p.data.length := rfl
  simp only [Ld_eq, List.getElem?_cons_zero, List.getElem?_cons_succ, LdV_some, dec_slice, dec_int, dec_bool, add_mk, Nat.zero_add, Nat.add_zero, r1.cell]
  refine cm_v4_Size (v4_size _ _ _ _ _ _ _ _ _ _ _ (show o.len ≤ 2 ^ 60 by omega) (show d.len ≤ 2 ^ 60 by omega) _) ?_
  rintro _ w2 ⟨rfl, f2⟩
  have e : (if (548 : Int) < 20 + (({ a := o.a, len := o.len, cap := o.cap } : SliceV).len : Int) + (({ a := d.a, len := d.len, cap := d.cap } : SliceV).len : Int) then (548 : Int) else 20 + (({ a := o.a, len := o.len, cap := o.cap } : SliceV).len : Int) + (({ a := d.a, len := d.len, cap := d.cap } : SliceV).len : Int)) = ((min p.size 548 : Nat) : Int) := by
    simp only [ho, hd, hz]
    split <;> omega
  rw [e]
  refine SubSl_bytes ((hs.ext f1).ext f2) (by omega) (by omega) (by omega) fun s3 hs3 _ => ?_
  rw [show Int.toNat 0 = 0 from rfl, List.drop_zero, Int.toNat_natCast] at hs3
  refine cm_slices_Clone_byte_byte (clone_ok hs3 (by simp; omega)) ?_
  rintro r w4 ⟨b4, _, f4, _⟩
  exact ⟨b4, (f1.trans f2).trans f4⟩

theorem makeR_fail {w : World} {from_ kind code rest e : Int} {l : List UInt8} (h : makeE from_ kind code rest l = e) (he : e ≠ 0) : PktR w (makeR from_ kind code rest l) 0 0 0 0 0 0 0 false false ⟨none, 0, 0⟩ ⟨none, 0, 0⟩ := by
  unfold makeR
  rw [h, if_neg he]
  exact zero_PktR _

theorem make_ok {w : World} {s : SliceV} {l : List UInt8} (hs : SlB w s l) (hl : l.length ≤ 2 ^ 40) (from_ kind code rest : Int) :
    c_errs_Make from_ kind code rest s w fun t i o l' p s' d df mf op da e w' => e = makeE from_ kind code rest l ∧ PktR w' (makeR from_ kind code rest l) t i o l' p s' d df mf op da ∧ Ext w w' := by
  apply ok_errs_Make
  unfold s_errs_Make
  refine Al_e fun a w1 r1 e1 z1 f1 => ?_
  have fin : ∀ (e : Int) W, Ext w1 W → makeE from_ kind code rest l = e → e ≠ 0 → StN [(Value.int .i64 0), (Value.int .i64 0), (Value.int .i64 0), (Value.int .i64 0), (Value.int .i64 0), (Value.int .i64 0), (Value.int .i64 0), (Value.bool false), (Value.bool false), (Value.slice none 0 0), (Value.slice none 0 0)] W ⟨a, 0, none⟩ 0 fun w28 =>
      LdV (.int .i64) (w28.cell? ⟨a, 0, none⟩) fun y1 => LdV (.int .i64) (w28.cell? ⟨a, 1, none⟩) fun y2 => LdV (.int .i64) (w28.cell? ⟨a, 2, none⟩) fun y3 => LdV (.int .i64) (w28.cell? ⟨a, 3, none⟩) fun y4 => LdV (.int .i64) (w28.cell? ⟨a, 4, none⟩) fun y5 =>
      LdV (.int .i64) (w28.cell? ⟨a, 5, none⟩) fun y6 => LdV (.int .i64) (w28.cell? ⟨a, 6, none⟩) fun y7 => LdV .bool (w28.cell? ⟨a, 7, none⟩) fun y8 => LdV .bool (w28.cell? ⟨a, 8, none⟩) fun y9 => LdV .slice (w28.cell? ⟨a, 9, none⟩) fun y10 => LdV .slice (w28.cell? ⟨a, 10, none⟩) fun y11 =>
      (e = makeE from_ kind code rest l ∧ PktR w28 (makeR from_ kind code rest l) y1 y2 y3 y4 y5 y6 y7 y8 y9 y10 y11 ∧ Ext w w28) := by
    intro e W hx he hne
    refine StN_full (r1.ext hx) rfl rfl fun w28 r28 f28 _ => ?_
    simp only [List.getElem?_cons_zero, List.getElem?_cons_succ, LdV_some, dec_slice, dec_int, dec_bool, r28.cell]
    exact ⟨he.symm, makeR_fail he hne, (f1.trans hx).new (f28 (· = a) rfl) fun y hy e => by omega⟩
  refine cm_errs_open (eopen_ok (hs.ext f1) hl) ?_
  rintro t i o l' p s' d df mf op da _ w2 ⟨rfl, hp, f2⟩
  refine Al_f rfl rfl fun b w3 r3 e3 z3 f3 => ?_
  have x3 := f2.trans f3
  by_cases hm : mayB l = true
  · obtain ⟨rfl, rfl, rfl, rfl, rfl, rfl, rfl, rfl, rfl, hop, hda⟩ := hp hm
    have hq := mayB_iff.1 hm
    have hz := field_size (read_open hq.1)
    simp only [hm, Bool.not_true, cond_false, Ld_eq, List.getElem?_cons_zero, List.getElem?_cons_succ, LdV_some, dec_slice, dec_int, dec_bool, add_mk, Nat.zero_add, Nat.add_zero, r3.cell]
    refine cm_errs_quote (quote_ok ((hs.ext f1).ext x3) hl (field l) (o := op) (d := da) hop hda hz.2) ?_
    rintro r4 w4 ⟨b4, f4⟩
    refine Al_f rfl rfl fun c w5 r5 e5 z5 f5 => ?_
    simp only [List.getElem?_cons_zero, List.getElem?_cons_succ, LdV_some, dec_slice, dec_int, add_mk, Nat.zero_add, Nat.add_zero, r5.cell]
    refine cm_icmp_Build (mbuild_ok (makeM kind code rest l) (d := r4) (SlB.of_buf (b4.ext f5))) ?_
    rintro r6 e6 w6 ⟨rfl, b6, f6, n6, n6'⟩
    have y6 := f4.trans (f5.trans f6)
    have x6 := x3.trans y6
    by_cases hc : (makeM kind code rest l).check = 0
    · simp only [hc, show ((0 : Int) != 0) = false from rfl, cond_false, List.getElem?_cons_zero, List.getElem?_cons_succ, LdV_some, dec_int, (r3.ext y6).cell]
      refine Al_f rfl rfl fun g w7 r7 e7 z7 f7 => ?_
      simp only [List.getElem?_cons_zero, List.getElem?_cons_succ, LdV_some, dec_slice, dec_int, dec_bool, add_mk, Nat.zero_add, Nat.add_zero, r7.cell]
      have b6 := b6 hc
      have hbl := b6.1
      have hml : (makeM kind code rest l).bytes.length = 8 + (makeM kind code rest l).data.length := body_len _ _
      have hdl := (mcheck_zero hc).2
      refine cm_v4_Check (check_ok (makeP from_ kind code rest l) (o := ⟨none, 0, 0⟩) (d := r6) rfl hbl (by simp [makeP]) (by show (makeM kind code rest l).bytes.length ≤ 2 ^ 46; omega)) ?_
      rintro _ w8 ⟨rfl, f8⟩
      have x8 := x6.trans (f7.trans f8)
      by_cases hk : (makeP from_ kind code rest l).check = 0
      · simp only [hk, show ((0 : Int) != 0) = false from rfl, cond_false, List.getElem?_cons_zero, List.getElem?_cons_succ, LdV_some, dec_slice, dec_int, dec_bool, (r7.ext f8).cell]
        refine StN_full (r1.ext x8) rfl rfl fun w9 r9 f9 _ => ?_
        simp only [List.getElem?_cons_zero, List.getElem?_cons_succ, LdV_some, dec_slice, dec_int, dec_bool, r9.cell]
        have me : makeE from_ kind code rest l = 0 := by unfold makeE; rw [if_pos hm, if_pos hc, if_pos hk]
        refine ⟨me.symm, ?_, (f1.trans x8).new (f9 (· = a) rfl) fun y hy e => by omega⟩
        unfold makeR
        rw [if_pos me]
        refine ⟨rfl, rfl, rfl, rfl, rfl, rfl, rfl, rfl, rfl, SlB.nil, ?_⟩
        have z5 : w1.heap.size ≤ w5.heap.size := (x3.trans (f4.trans f5)).size
        exact SlB.fr ((b6.ext f7).ext f8) (f9 (· = a) rfl) fun x hx _ e => by have := n6 _ (n6' x hx); omega
      · have hk' : ((makeP from_ kind code rest l).check != 0) = true := by simpa using hk
        simp only [hk', cond_true]
        exact fin 1 w8 x8 (by unfold makeE; rw [if_pos hm, if_pos hc, if_neg hk]) (by omega)
    · have hc' : ((makeM kind code rest l).check != 0) = true := by simpa using hc
      simp only [hc', cond_true]
      exact fin 1 w6 x6 (by unfold makeE; rw [if_pos hm, if_neg hc]) (by omega)
  · have hm' : mayB l = false := by simpa using hm
    simp only [hm', Bool.not_false, cond_true, Ld_eq, add_mk, Nat.zero_add, Nat.add_zero]
    exact fin 11 w3 x3 (by unfold makeE; rw [if_neg hm]) (by omega)

theorem rmake_ok {w : World} {s : SliceV} {l : List UInt8} (hs : SlB w s l) (hl : l.length ≤ 2 ^ 40) (from_ kind code rest : Int) :
    c_ref28_Make from_ kind code rest s w fun t i o l' p s' d df mf op da e w' => e = makeE from_ kind code rest l ∧ PktR w' (makeR from_ kind code rest l) t i o l' p s' d df mf op da ∧ Ext w w' := by
  apply ok_ref28_Make
  unfold s_ref28_Make
  refine Al_e fun a w1 r1 e1 z1 f1 => ?_
  have fin : ∀ (e : Int) W, Ext w1 W → makeE from_ kind code rest l = e → e ≠ 0 → StN [(Value.int .i64 0), (Value.int .i64 0), (Value.int .i64 0), (Value.int .i64 0), (Value.int .i64 0), (Value.int .i64 0), (Value.int .i64 0), (Value.bool false), (Value.bool false), (Value.slice none 0 0), (Value.slice none 0 0)] W ⟨a, 0, none⟩ 0 fun w28 =>
      LdV (.int .i64) (w28.cell? ⟨a, 0, none⟩) fun y1 => LdV (.int .i64) (w28.cell? ⟨a, 1, none⟩) fun y2 => LdV (.int .i64) (w28.cell? ⟨a, 2, none⟩) fun y3 => LdV (.int .i64) (w28.cell? ⟨a, 3, none⟩) fun y4 => LdV (.int .i64) (w28.cell? ⟨a, 4, none⟩) fun y5 =>
      LdV (.int .i64) (w28.cell? ⟨a, 5, none⟩) fun y6 => LdV (.int .i64) (w28.cell? ⟨a, 6, none⟩) fun y7 => LdV .bool (w28.cell? ⟨a, 7, none⟩) fun y8 => LdV .bool (w28.cell? ⟨a, 8, none⟩) fun y9 => LdV .slice (w28.cell? ⟨a, 9, none⟩) fun y10 => LdV .slice (w28.cell? ⟨a, 10, none⟩) fun y11 =>
      (e = makeE from_ kind code rest l ∧ PktR w28 (makeR from_ kind code rest l) y1 y2 y3 y4 y5 y6 y7 y8 y9 y10 y11 ∧ Ext w w28) := by
    intro e W hx he hne
    refine StN_full (r1.ext hx) rfl rfl fun w28 r28 f28 _ => ?_
    simp only [List.getElem?_cons_zero, List.getElem?_cons_succ, LdV_some, dec_slice, dec_int, dec_bool, r28.cell]
    exact ⟨he.symm, makeR_fail he hne, (f1.trans hx).new (f28 (· = a) rfl) fun y hy e => by omega⟩
  refine cm_ref28_May (rmay_ok (hs.ext f1) hl) ?_
  rintro _ w2 ⟨rfl, f2⟩
  by_cases hm : mayB l = true
  · have hq := mayB_iff.1 hm
    have hz := field_size (read_open hq.1)
    simp only [hm, Bool.not_true, cond_false]
    refine cm_ref05_Quoted (rquoted_ok ((hs.ext f1).ext f2) hl) ?_
    have rd : V4.read l true = field l := by unfold V4.read; rw [if_pos hq.1]
    rw [rd]
    rintro _ _ _ _ _ _ _ _ _ op da _ w2' ⟨rfl, ⟨rfl, rfl, rfl, rfl, rfl, rfl, rfl, rfl, rfl, hop, hda⟩, f2'⟩
    refine Al_f rfl rfl fun b w3 r3 e3 z3 f3 => ?_
    have x3 := (f2.trans f2').trans f3
    have ol := hop.1
    have dl := hda.1
    have hlo := field_opts_len (l := l)
    have hzz : (field l).size = 20 + (field l).opts.length + (field l).data.length := rfl
    simp only [Ld_eq, List.getElem?_cons_zero, List.getElem?_cons_succ, LdV_some, dec_slice, dec_int, dec_bool, add_mk, Nat.zero_add, Nat.add_zero, r3.cell]
    refine cm_ref05_Size (ref05_size_ok _ _ _ _ _ _ _ _ _ _ _ (show op.len ≤ 2 ^ 60 by omega) (show da.len ≤ 2 ^ 60 by omega) _) ?_
    rintro _ w4 ⟨rfl, f4⟩
    have e : (if (548 : Int) < 20 + (({ a := op.a, len := op.len, cap := op.cap } : SliceV).len : Int) + (({ a := da.a, len := da.len, cap := da.cap } : SliceV).len : Int) then (548 : Int) else 20 + (({ a := op.a, len := op.len, cap := op.cap } : SliceV).len : Int) + (({ a := da.a, len := da.len, cap := da.cap } : SliceV).len : Int)) = ((min (field l).size 548 : Nat) : Int) := by
      simp only [ol, dl, hzz]
      split <;> omega
    rw [e]
    refine SubSl_bytes (((hs.ext f1).ext x3).ext f4) (by omega) (by omega) (by omega) fun s5 hs5 _ => ?_
    rw [show Int.toNat 0 = 0 from rfl, List.drop_zero, Int.toNat_natCast] at hs5
    refine cm_ref09_Build (rmbuild_ok (makeM kind code rest l) (d := s5) hs5) ?_
    rintro r6 e6 w6 ⟨rfl, b6, f6, n6, n6'⟩
    have y6 := f4.trans f6
    have x6 := x3.trans y6
    by_cases hc : (makeM kind code rest l).check = 0
    · simp only [hc, show ((0 : Int) != 0) = false from rfl, cond_false, List.getElem?_cons_zero, List.getElem?_cons_succ, LdV_some, dec_int, (r3.ext y6).cell]
      refine Al_f rfl rfl fun g w7 r7 e7 z7 f7 => ?_
      simp only [List.getElem?_cons_zero, List.getElem?_cons_succ, LdV_some, dec_slice, dec_int, dec_bool, add_mk, Nat.zero_add, Nat.add_zero, r7.cell]
      have b6 := b6 hc
      have hbl := b6.1
      have hml : (makeM kind code rest l).bytes.length = 8 + (makeM kind code rest l).data.length := body_len _ _
      have hdl := (mcheck_zero hc).2
      refine cm_ref05_Check (rcheck_ok (makeP from_ kind code rest l) (o := ⟨none, 0, 0⟩) (d := r6) rfl hbl (by simp [makeP]) (by show (makeM kind code rest l).bytes.length ≤ 2 ^ 46; omega)) ?_
      rintro _ w8 ⟨rfl, f8⟩
      have x8 := x6.trans (f7.trans f8)
      by_cases hk : (makeP from_ kind code rest l).check = 0
      · simp only [hk, show ((0 : Int) != 0) = false from rfl, cond_false, List.getElem?_cons_zero, List.getElem?_cons_succ, LdV_some, dec_slice, dec_int, dec_bool, (r7.ext f8).cell]
        refine StN_full (r1.ext x8) rfl rfl fun w9 r9 f9 _ => ?_
        simp only [List.getElem?_cons_zero, List.getElem?_cons_succ, LdV_some, dec_slice, dec_int, dec_bool, r9.cell]
        have me : makeE from_ kind code rest l = 0 := by unfold makeE; rw [if_pos hm, if_pos hc, if_pos hk]
        refine ⟨me.symm, ?_, (f1.trans x8).new (f9 (· = a) rfl) fun y hy e => by omega⟩
        unfold makeR
        rw [if_pos me]
        refine ⟨rfl, rfl, rfl, rfl, rfl, rfl, rfl, rfl, rfl, SlB.nil, ?_⟩
        have z5 : w1.heap.size ≤ w4.heap.size := (x3.trans f4).size
        exact SlB.fr ((b6.ext f7).ext f8) (f9 (· = a) rfl) fun x hx _ e => by have := n6 _ (n6' x hx); omega
      · have hk' : ((makeP from_ kind code rest l).check != 0) = true := by simpa using hk
        simp only [hk', cond_true]
        exact fin 1 w8 x8 (by unfold makeE; rw [if_pos hm, if_pos hc, if_neg hk]) (by omega)
    · have hc' : ((makeM kind code rest l).check != 0) = true := by simpa using hc
      simp only [hc', cond_true]
      exact fin 1 w6 x6 (by unfold makeE; rw [if_pos hm, if_neg hc]) (by omega)
  · have hm' : mayB l = false := by simpa using hm
    simp only [hm', Bool.not_false, cond_true, Ld_eq, add_mk, Nat.zero_add, Nat.add_zero]
    exact fin 11 w2 f2 (by unfold makeE; rw [if_neg hm]) (by omega)
end Go.Proofs
