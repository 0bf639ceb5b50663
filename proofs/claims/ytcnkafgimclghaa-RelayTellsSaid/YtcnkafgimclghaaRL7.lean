import Derived.Test.YtcnkafgimclghaaRL6
import Derived.Test.YtcnkafgimclghaaRelPure2
/- What the layer's statements say of the packets that are told. -/
namespace Go.Proofs
open Gp Gp.V4
set_option maxRecDepth 100000
set_option maxHeartbeats 1000000

def six1 : List UInt8 := [1, 0, 0, 0, 0, 0, 0, 0, 0, 0, 0, 0, 0, 0, 0, 0]
def six2 : List UInt8 := [2, 0, 0, 0, 0, 0, 0, 0, 0, 0, 0, 0, 0, 0, 0, 0]

theorem dg_ok {w : World} {d : SliceV} {l : List UInt8} (hd : SlB w d l) (hl : l.length ≤ 60000) {a b src dst ttl : Int} (ha : hostP a) (hb : hostP b) (h1 : 0 ≤ src ∧ src < 65536) (h2 : 0 ≤ dst ∧ dst < 65536) (h3 : 0 ≤ ttl ∧ ttl < 256) :
    c_plain_Datagram a b src dst ttl d w fun r w' => (∃ p : Pkt, Dg p l.length ∧ SlB w' r p.bytes ∧ p.src = a) ∧ Ext w w' := by
  have ha' := ha.1
  have hb' := hb.1
  have ha2 := ha.2.1
  have hb2 := hb.2.1
  obtain ⟨a, rfl⟩ := Int.eq_ofNat_of_zero_le (show 0 ≤ a by omega)
  obtain ⟨b, rfl⟩ := Int.eq_ofNat_of_zero_le (show 0 ≤ b by omega)
  obtain ⟨src, rfl⟩ := Int.eq_ofNat_of_zero_le h1.1
  obtain ⟨dst, rfl⟩ := Int.eq_ofNat_of_zero_le h2.1
  obtain ⟨ttl, rfl⟩ := Int.eq_ofNat_of_zero_le h3.1
  refine cm_plain_Datagram (datagram_ok hd hl (by omega) (by omega) (by omega) (by omega) (by omega)) ?_
  rintro r w' ⟨⟨p, h1, h2, h3, h4, h5, h6, h7, h8⟩, hx⟩
  exact ⟨⟨p, ⟨h1, h3, h4, by rw [h5]; exact ha, by rw [h6]; exact hb, h7, h8⟩, h2, h5⟩, hx⟩

theorem reach_all {own peer : List UInt8} (ho : own.length = 16) (hp : peer.length = 16) {p : Pkt} {n : Nat} (h : Dg p n) (hn : n ≤ 1000) {s : Int} (h0 : 0 ≤ s) (h1 : s ≤ 65535) {from_ : Int} (hf : 0 ≤ from_ ∧ from_ < 4294967296) :
    ofE own 2 s (wrapP own peer p.bytes).bytes = 0 ∧ ofR own 2 s (wrapP own peer p.bytes).bytes = ⟨peer, 3, 4, max (s - 40) 68, p.bytes⟩ ∧
    makeE from_ 3 4 (max (s - 40) 68) p.bytes = 0 ∧ (makeR from_ 3 4 (max (s - 40) 68) p.bytes).dst = p.src := by
  have hl := h.len
  have hb : (wrapP own peer p.bytes).bytes.length = 68 + n := by rw [bytes6_len ⟨ho, hp⟩]; show 40 + p.bytes.length = _; omega
  have := reach ho hp h hn (m := (wrapP own peer p.bytes).bytes.length) (by omega) h0 h1 hf
  rw [List.take_length, hb, List.take_of_length_le (show p.bytes.length ≤ 68 + n - 40 by omega)] at this
  exact this

theorem awake30_ok (w : World) : c_law30_awake w fun r w' => r = true ∧ Ext w w' := by
  apply ok_law30_awake
  unfold s_law30_awake
  refine Al_e fun a w1 r1 e1 z1 f1 => Al_e fun b w2 r2 e2 z2 f2 => ?_
  have z1' := f1.size
  have z2' := f2.size
  refine StN_full (r1.ext f2) rfl rfl fun w3 r3 f3 _ => ?_
  have f3a := f3 (· = a) rfl
  have z3' := f3a.size
  refine StN_full (r2.fr f3a (by omega)) rfl rfl fun w4 r4 f4 _ => ?_
  have f4b := f4 (· = b) rfl
  have z4' := f4b.size
  have ra := r3.fr f4b (by omega)
  have x4 : Ext w w4 := ((f1.trans f2).new f3a fun y hy e => by omega).new f4b fun y hy e => by omega
  have ho : six1.length = 16 := rfl
  have hp : six2.length = 16 := rfl
  intro J7
  have hJ : ∀ (q : Nat) (W : World) (p : Pkt) (t0 t1 t2 t3 v0 v1 v2 v3 v4 v5 v6 v7 v8 v9 v10 v11 v12 v13 v14 v15 v16 v17 v18 v19 v20 v21 v22 v23 v24 v25 v26 v27 v28 v29 v30 v31 : Int) (s : SliceV), Ext w4 W → Row W q [.int .i64 t0, .int .i64 t1, .int .i64 t2, .int .i64 t3, .int .u8 v0, .int .u8 v1, .int .u8 v2, .int .u8 v3, .int .u8 v4, .int .u8 v5, .int .u8 v6, .int .u8 v7, .int .u8 v8, .int .u8 v9, .int .u8 v10, .int .u8 v11, .int .u8 v12, .int .u8 v13, .int .u8 v14, .int .u8 v15, .int .u8 v16, .int .u8 v17, .int .u8 v18, .int .u8 v19, .int .u8 v20, .int .u8 v21, .int .u8 v22, .int .u8 v23, .int .u8 v24, .int .u8 v25, .int .u8 v26, .int .u8 v27, .int .u8 v28, .int .u8 v29, .int .u8 v30, .int .u8 v31, .slice s.a s.len s.cap] → Dg p 0 → p.src = 167772161 → Pk6L W (wrapP six1 six2 p.bytes) t0 t1 t2 t3 [v0, v1, v2, v3, v4, v5, v6, v7, v8, v9, v10, v11, v12, v13, v14, v15] [v16, v17, v18, v19, v20, v21, v22, v23, v24, v25, v26, v27, v28, v29, v30, v31] s → J7 ⟨q, 0, none⟩ W := by
    intro q W p t0 t1 t2 t3 v0 v1 v2 v3 v4 v5 v6 v7 v8 v9 v10 v11 v12 v13 v14 v15 v16 v17 v18 v19 v20 v21 v22 v23 v24 v25 v26 v27 v28 v29 v30 v31 s hx hr hd hsrc hk
    have hl := hd.len
    simp -zeta only [J7]
    simp -zeta only [Ld_eq, add_mk, Nat.zero_add, Nat.add_zero, hr.cell]
    refine cm_v6_Build (build6_ok hk (by show p.bytes.length ≤ _; omega)) ?_
    rintro r e w5 ⟨he, hb, f5⟩
    rw [wrap_fine (by omega)] at he
    have hb := hb he
    have hbl : (wrapP six1 six2 p.bytes).bytes.length = 68 := by rw [bytes6_len ⟨ho, hp⟩]; show 40 + p.bytes.length = _; omega
    have x5 := hx.trans f5
    have ra5 := ra.ext x5
    simp -zeta only [List.getElem?_cons_zero, List.getElem?_cons_succ, LdV_some, dec_int, ra5.cell]
    refine cm_relay_Of (told_ok (own := six1) rfl hb (by omega) 2 0 1400 (by omega)) ?_
    rintro u0 u1 u2 u3 u4 u5 u6 u7 u8 u9 u10 u11 u12 u13 u14 u15 k c rs b' e6 w6 ⟨he6, ht, f6⟩
    obtain ⟨g1, g2, g3, g4⟩ := reach_all ho hp hd (by omega) (s := 1400) (by omega) (by omega) (from_ := 3221225474) (by omega)
    rw [g1] at he6
    rw [g2] at ht
    obtain ⟨hpeer, ⟨rfl, rfl, rfl⟩, hin⟩ := ht
    subst he6
    refine Al_e fun d w7 r7 e7 z7 f7 => ?_
    have z7' := f7.size
    refine StN_full r7 rfl rfl fun w8 r8 f8 z8 => ?_
    have x68 : Ext w6 w8 := f7.new (f8 (· = d) rfl) fun y hy e => by omega
    simp -zeta only [List.getElem?_cons_zero, List.getElem?_cons_succ, LdV_some, dec_slice, dec_int, add_mk, Nat.zero_add, Nat.add_zero, r8.cell]
    refine cm_relay_Packet (relpkt_ok u0 u1 u2 u3 u4 u5 u6 u7 u8 u9 u10 u11 u12 u13 u14 u15 (hin.ext x68) (by show p.bytes.length ≤ _; omega) 3221225474 3 4 _) ?_
    rintro i0 i1 i2 i3 i4 i5 i6 b0 b1 op da e9 w9 ⟨he9, hk9, f9⟩
    rw [show (V4.Told.mk six2 3 4 (max (1400 - 40) 68) p.bytes).inner = p.bytes from rfl] at he9 hk9
    rw [g3] at he9
    subst he9
    obtain ⟨_, _, _, _, _, _, hdst, _⟩ := hk9
    rw [g4, hsrc] at hdst
    subst hdst
    refine Al_e fun g wa rA eA zA fA => ?_
    have zA' := fA.size
    refine StN_full rA rfl rfl fun wb rB fB zB => ?_
    have x9b : Ext w9 wb := fA.new (fB (· = g) rfl) fun y hy e => by omega
    have x8b := f9.trans x9b
    have rd := r8.ext x8b
    have xall := x5.trans (f6.trans (x68.trans x8b))
    have rb := r4.ext xall
    intro J127
    have hJ2 : J127 true := by
      simp only [J127]
      exact ⟨by trivial, x4.trans xall⟩
    clear_value J127
    rw [show ((0 : Int) == 0) = true from rfl, cond_true]
    simp -zeta only [cond_true, List.getElem?_cons_zero, List.getElem?_cons_succ, LdV_some, dec_int, add_mk, Nat.zero_add, rd.cell, rb.cell]
    rw [eq16, show decide ([u0, u1, u2, u3, u4, u5, u6, u7, u8, u9, u10, u11, u12, u13, u14, u15] = [2, 0, 0, 0, 0, 0, 0, 0, 0, 0, 0, 0, 0, 0, 0, 0]) = true by rw [decide_eq_true_iff, hpeer]; rfl, cond_true]
    simp -zeta only [List.getElem?_cons_zero, List.getElem?_cons_succ, LdV_some, dec_int, rB.cell]
    exact hJ2
  clear_value J7
  have hown : [(1 : Int), 0, 0, 0, 0, 0, 0, 0, 0, 0, 0, 0, 0, 0, 0, 0] = bi six1 := rfl
  have hpeer : [(2 : Int), 0, 0, 0, 0, 0, 0, 0, 0, 0, 0, 0, 0, 0, 0, 0] = bi six2 := rfl
  have h1 : hostP 167772161 := by decide
  have h2 : hostP 3221225985 := by decide
  have xd := Ext.drew w4
  have rad := ra.drew
  have rbd := r4.drew
  have zd : w4.drew.heap.size = w4.heap.size := rfl
  simp -zeta only [Ld_eq, List.getElem?_cons_zero, List.getElem?_cons_succ, LdV_some, dec_int, add_mk, Nat.zero_add, Nat.add_zero, rad.cell, rbd.cell]
  refine ⟨?_, ?_⟩
  · refine cm_plain_Datagram (dg_ok SlB.nil (by simp) h1 h2 (by omega) (by omega) (by omega)) ?_
    rintro r w5 ⟨⟨p, hd, hb, hsrc⟩, f5⟩
    have hl : p.bytes.length = 28 := hd.len
    have ra5 := rad.ext f5
    have rb5 := rbd.ext f5
    simp -zeta only [true_and, List.getElem?_cons_zero, List.getElem?_cons_succ, ra5.cell, rb5.cell]
    refine ⟨?_, ?_⟩
    · refine cm_wrap_Wrap (wrap_ok hb (by omega) hown hpeer) ?_
      rintro t0 t1 t2 t3 v0 v1 v2 v3 v4 v5 v6 v7 v8 v9 v10 v11 v12 v13 v14 v15 v16 v17 v18 v19 v20 v21 v22 v23 v24 v25 v26 v27 v28 v29 v30 v31 s e w6 ⟨he, hk, f6⟩
      obtain ⟨hk, hn⟩ := hk (he.trans (wrap_fine (by omega)))
      refine Al_e fun q w7 r7 e7 z7 f7 => ?_
      have z7' := f7.size
      have ra7 := (ra5.ext f6).ext f7
      have rb7 := (rb5.ext f6).ext f7
      simp -zeta only [true_and, List.getElem?_cons_zero, List.getElem?_cons_succ, ra7.cell, rb7.cell]
      refine StN_full r7 rfl rfl fun w8 r8 f8 z8 => ?_
      have x68 : Ext w6 w8 := f7.new (f8 (· = q) rfl) fun y hy e => by omega
      exact hJ q w8 p t0 t1 t2 t3 v0 v1 v2 v3 v4 v5 v6 v7 v8 v9 v10 v11 v12 v13 v14 v15 v16 v17 v18 v19 v20 v21 v22 v23 v24 v25 v26 v27 v28 v29 v30 v31 s (xd.trans (f5.trans (f6.trans x68))) r8 hd hsrc (hk.ext x68)
    · refine Al_e fun q w7 r7 e7 z7 f7 => ?_
      have z7' := f7.size
      have ra7 := ra5.ext f7
      have rb7 := rb5.ext f7
      simp -zeta only [true_and, List.getElem?_cons_zero, List.getElem?_cons_succ, ra7.cell, rb7.cell]
      refine cm_wrap_Wrap (wrap_ok (hb.ext f7) (by omega) hown hpeer) ?_
      rintro t0 t1 t2 t3 v0 v1 v2 v3 v4 v5 v6 v7 v8 v9 v10 v11 v12 v13 v14 v15 v16 v17 v18 v19 v20 v21 v22 v23 v24 v25 v26 v27 v28 v29 v30 v31 s e w6 ⟨he, hk, f6⟩
      obtain ⟨hk, hn⟩ := hk (he.trans (wrap_fine (by omega)))
      refine StN_full (r7.ext f6) rfl rfl fun w8 r8 f8 z8 => ?_
      have f8q := f8 (· = q) rfl
      have x58 : Ext w5 w8 := (f7.trans f6).new f8q fun y hy e => by omega
      exact hJ q w8 p t0 t1 t2 t3 v0 v1 v2 v3 v4 v5 v6 v7 v8 v9 v10 v11 v12 v13 v14 v15 v16 v17 v18 v19 v20 v21 v22 v23 v24 v25 v26 v27 v28 v29 v30 v31 s (xd.trans (f5.trans x58)) r8 hd hsrc ⟨hk.n, hk.src, hk.dst, hk.data.fr f8q fun x hx _ e => by have := hn x hx; omega⟩
  · refine Al_e fun q w7 r7 e7 z7 f7 => ?_
    have z7' := f7.size
    have ra7 := rad.ext f7
    have rb7 := rbd.ext f7
    simp -zeta only [true_and, List.getElem?_cons_zero, List.getElem?_cons_succ, ra7.cell, rb7.cell]
    refine cm_plain_Datagram (dg_ok SlB.nil (by simp) h1 h2 (by omega) (by omega) (by omega)) ?_
    rintro r w5 ⟨⟨p, hd, hb, hsrc⟩, f5⟩
    have hl : p.bytes.length = 28 := hd.len
    have ra5 := ra7.ext f5
    have rb5 := rb7.ext f5
    have z5' := f5.size
    simp -zeta only [true_and, List.getElem?_cons_zero, List.getElem?_cons_succ, ra5.cell, rb5.cell]
    refine cm_wrap_Wrap (wrap_ok hb (by omega) hown hpeer) ?_
    rintro t0 t1 t2 t3 v0 v1 v2 v3 v4 v5 v6 v7 v8 v9 v10 v11 v12 v13 v14 v15 v16 v17 v18 v19 v20 v21 v22 v23 v24 v25 v26 v27 v28 v29 v30 v31 s e w6 ⟨he, hk, f6⟩
    obtain ⟨hk, hn⟩ := hk (he.trans (wrap_fine (by omega)))
    refine StN_full (r7.ext (f5.trans f6)) rfl rfl fun w8 r8 f8 z8 => ?_
    have f8q := f8 (· = q) rfl
    have x48 : Ext w4.drew w8 := (f7.trans (f5.trans f6)).new f8q fun y hy e => by omega
    exact hJ q w8 p t0 t1 t2 t3 v0 v1 v2 v3 v4 v5 v6 v7 v8 v9 v10 v11 v12 v13 v14 v15 v16 v17 v18 v19 v20 v21 v22 v23 v24 v25 v26 v27 v28 v29 v30 v31 s (xd.trans x48) r8 hd hsrc ⟨hk.n, hk.src, hk.dst, hk.data.fr f8q fun x hx _ e => by have := hn x hx; omega⟩
end Go.Proofs
