import Derived.Test.YtfndjkoiappemaaGreatW13
section
namespace Go.Proofs.PS
open Gp Go.Proofs Go.Proofs.EN
open Gp.Bind (Bnd Slots live GoodB freeN getS In64)
open Gp.Wh (Tm)
set_option maxRecDepth 100000
set_option maxHeartbeats 1000000
variable {w w' : World} {A : SA} {c : Cf} {Z : Bnd -> Prop} {v : SV}
theorem Jf : ∀ (n : Nat) (l : List Int), l.length < n -> ∃ i : Nat, i < n ∧ (i : Int) ∉ l
  | 0, l, h => by omega
  | n + 1, l, h => by
    by_cases hm : (n : Int) ∈ l
    · have h1 := List.length_erase_of_mem hm
      have h2 : 0 < l.length := List.length_pos_of_mem hm
      obtain ⟨i, hi, hn⟩ := Jf n (l.erase (n : Int)) (by omega)
      refine ⟨i, by omega, fun h => hn ?_⟩
      exact (List.mem_erase_of_ne (by omega)).2 h
    · exact ⟨n, by omega, hm⟩
theorem Srv.acC (h : Srv w A c v) {x : bF} (hr : Row w x.blk x.v) (hn : ¬ dP A v.L x.blk) : Srv w A c { v with L := x :: v.L } := by
  have sub : ∀ k b, own A (x :: v.L) k b -> own A v.L k b ∨ (k = 5 ∧ b = x.blk) := by
    intro k b ho
    match k, ho with
    | 0, ho => exact .inl ho
    | 1, ho => exact .inl ho
    | 2, ho => exact .inl ho
    | 3, ho => exact .inl ho
    | 4, ho => exact .inl ho
    | 5, ⟨y, hy, e⟩ =>
      rcases List.mem_cons.1 hy with rfl | hy
      · exact .inr ⟨rfl, e.symm⟩
      · exact .inl ⟨y, hy, e⟩
    | (n + 6), ho => exact .inl ho
  refine ⟨h.hd, h.en, h.wh, h.li, h.ld, h.nI, h.nD, fun y hy => ?_, fun k k' b h1 h2 => ?_, fun k b hb => ?_, ?_⟩
  · rcases List.mem_cons.1 hy with rfl | hy
    · exact hr
    · exact h.rw y hy
  · rcases sub k b h1 with g1 | ⟨rfl, g1⟩ <;> rcases sub k' b h2 with g2 | ⟨rfl, g2⟩
    · exact h.ap k k' b g1 g2
    · exact absurd ⟨k, g2 ▸ g1⟩ hn
    · exact absurd ⟨k', g1 ▸ g2⟩ hn
    · rfl
  · rcases sub k b hb with g1 | ⟨_, g1⟩
    · exact h.lt k b g1
    · rw [g1]; exact hr.lt
  · show (x.blk :: v.L.map (·.blk)).Nodup
    refine List.nodup_cons.2 ⟨fun hm => hn ?_, h.bn⟩
    obtain ⟨y, hy, e⟩ := List.mem_map.1 hm
    exact ⟨5, y, hy, e⟩
theorem Srv.aa3 (h : Srv w A c v) {n : Int} (hf : aF w w' (· = A.s)) (hr : Row w' A.s [.pointer (some ⟨A.a.x, 0, none⟩), .pointer (some ⟨A.d, 0, none⟩), .map (some A.ml), .map (some A.mi), .int .i64 (v.now : Int), .int .i64 n, .int .i64 v.most]) : Srv w' A c { v with nx := n } := by
  have o : ∀ k b, own A v.L k b -> k ≠ 0 -> ¬ b = A.s := fun k b hk hn he => h.off (j := 0) hk hn he
  exact ⟨hr, h.en.fr hf (fun k b hb => o 1 b ⟨k, hb⟩ (by decide)), h.wh.fr hf (fun b hb => o 2 b hb (by decide)), h.li.fr hf (o 3 _ rfl (by decide)), h.ld.fr hf (o 4 _ rfl (by decide)), h.nI, h.nD, fun x hx => (h.rw x hx).fr hf (o 5 _ ⟨x, hx, rfl⟩ (by decide)), h.ap,
    fun k b hb => Nat.lt_of_lt_of_le (h.lt k b hb) hf.size, h.bn⟩
theorem Good.aa3 {P : List Int} (g : Good c Z v P) (n : Int) : Good c Z { v with nx := n } P := ⟨g.inv, g.ns, g.wn, g.li, g.ld, g.kk, g.ii, g.eb, g.ex, g.ir, g.wl, g.wt⟩
def codeF (e : Int) : Int := if e = 0 then 0 else if e = 10 then 8 else if e = 7 then 4 else if e = 9 then 11 else 3
def kB (b : Bnd) : I4 := (b.sw, b.pr, b.ad, b.po)
theorem aaf (g : Good c Z v []) {k : I4} (hk : ∀ y ∈ v.L, y.k ≠ k) : d_ v.LI k = none := by
  cases hc : d_ v.LI k with
  | none => rfl
  | some n =>
    obtain ⟨x, hx, h1, _⟩ := (g.li k n).1 hc
    exact absurd h1 (hk x hx)
theorem Zb {n : Nat} {un : Int} {L : List bF} (h : ∀ y ∈ L, y.blk ≠ n) : yX n un L = L := by
  unfold yX
  conv => rhs; rw [<- List.map_id L]
  refine List.map_congr_left fun y hy => ?_
  rw [if_neg (h y hy)]; rfl
theorem ab5 {n f : Int} (hn : 0 <= n ∧ n < 8192) (hf : 0 <= f ∧ f < 8192) (h : n ≠ f) : Int.tmod (IntKind.i64.wrap (n + 1)) 8192 = (n + 1) % 8192 ∧ 0 <= (n + 1) % 8192 ∧ (n + 1) % 8192 < 8192 ∧ ((f - (n + 1) % 8192) % 8192).toNat < ((f - n) % 8192).toNat := by
  rw [wrap_i64 (by omega) (by omega), Int.tmod_eq_emod_of_nonneg (by omega)]
  refine ⟨rfl, by omega, by omega, by omega⟩
theorem Yx (h : Srv w A c v) (g : Good c Z v []) (hnx : 0 <= v.nx ∧ v.nx < 8192) (ht : v.tn < 2 ^ 62) (hm : v.most <= 4096) {b : Bnd} (hst : b.st = true) (hk : ∀ y ∈ v.L, y.k ≠ kB b) {d0 d1 d2 d3 d4 d5 d6 d7 d8 d9 d10 d11 d12 d13 d14 d15 d16 d17 d18 d19 d20 d21 d22 d23 d24 d25 d26 d27 d28 d29 d30 d31 d32 : Int} (hl : 0 < d0 ∧ d0 < 4294967296) {K : Int -> Int -> Int -> Int -> Int -> Int -> Int -> Int -> Int -> Int -> Int -> Int -> Int -> Int -> Int -> Int -> Int -> Int -> Int -> Int -> Int -> Int -> Int -> Int -> Int -> Int -> Int -> Int -> Int -> Int -> Int -> Int -> Int -> Int -> World -> Prop}
    (h1 : (v.L.length : Int) >= v.most -> ∀ w', Ext w w' -> K 8 d0 d1 d2 d3 d4 d5 d6 d7 d8 d9 d10 d11 d12 d13 d14 d15 d16 d17 d18 d19 d20 d21 d22 d23 d24 d25 d26 d27 d28 d29 d30 d31 d32 w')
    (h2 : (v.L.length : Int) < v.most -> xX c v.e b ≠ 0 -> ∀ w', Ext w w' -> K (codeF (xX c v.e b)) d0 d1 d2 d3 d4 d5 d6 d7 d8 d9 d10 d11 d12 d13 d14 d15 d16 d17 d18 d19 d20 d21 d22 d23 d24 d25 d26 d27 d28 d29 d30 d31 d32 w')
    (h3 : (v.L.length : Int) < v.most -> xX c v.e b = 0 -> ∀ w' A' v' n id i, Out c Z w A v w' A' v' -> v'.L = ⟨n, b, v.now + min d0 86400, id⟩ :: v.L -> freeN v.e.S = some i -> v'.e.S = v.e.S.set i (some b) -> K 0 (min d0 86400) d1 d2 d3 d4 d5 d6 d7 d8 d9 d10 d11 d12 d13 d14 d15 d16 d17 d18 d19 d20 d21 d22 d23 d24 d25 d26 d27 d28 d29 d30 d31 d32 w') :
    oW (some ⟨A.s, 0, none⟩) b.sw b.pr b.ad b.po b.opr b.oad b.opo d0 d1 d2 d3 d4 d5 d6 d7 d8 d9 d10 d11 d12 d13 d14 d15 d16 d17 d18 d19 d20 d21 d22 d23 d24 d25 d26 d27 d28 d29 d30 d31 d32 w K := by
  apply CZ
  refine aN fun ai w1 r1 e1 z1 f1 => ?_
  refine aN fun ao w2 r2 e2 z2 f2 => ?_
  refine aN fun a w3 r3 e3 z3 f3 => ?_
  refine aN fun t w4 r4 e4 z4 f4 => ?_
  have x4 := ((f1.trans f2).trans f3).trans f4
  have r1 := (((r1.ext f2).ext f3).ext f4).drew
  have r2 := ((r2.ext f3).ext f4).drew
  have r3 := (r3.ext f4).drew
  have r4 := r4.drew
  have x4 := x4.trans (Ext.drew w4)
  have hS := h.ext x4
  have zz : ai < w4.heap.size ∧ ao < w4.heap.size ∧ a < w4.heap.size ∧ t < w4.heap.size ∧ w.heap.size <= ai ∧ w.heap.size <= ao ∧ w.heap.size <= a ∧ w.heap.size <= t ∧ a ≠ t ∧ ai ≠ a ∧ ao ≠ a := by omega
  obtain ⟨y1, y2, y3, y4, y5, y6, y7, y8, y9, y10, y11⟩ := zz
  have hnb : ∀ y, w.heap.size <= y -> ¬ dP A v.L y := fun y hy ⟨k, hk⟩ => by have := h.lt k y hk; omega
  have fail : ∀ W r, Ext w4.drew W -> Row W a (dw d0 d1 d2 d3 d4 d5 d6 d7 d8 d9 d10 d11 d12 d13 d14 d15 d16 d17 d18 d19 d20 d21 d22 d23 d24 d25 d26 d27 d28 d29 d30 d31 d32) -> (∀ w', Ext w w' -> K r d0 d1 d2 d3 d4 d5 d6 d7 d8 d9 d10 d11 d12 d13 d14 d15 d16 d17 d18 d19 d20 d21 d22 d23 d24 d25 d26 d27 d28 d29 d30 d31 d32 w') -> fH W ⟨a, 0, none⟩ fun y0 y1 y2 y3 y4 y5 y6 y7 y8 y9 y10 y11 y12 y13 y14 y15 y16 y17 y18 y19 y20 y21 y22 y23 y24 y25 y26 y27 y28 y29 y30 y31 y32 => iT (dw y0 y1 y2 y3 y4 y5 y6 y7 y8 y9 y10 y11 y12 y13 y14 y15 y16 y17 y18 y19 y20 y21 y22 y23 y24 y25 y26 y27 y28 y29 y30 y31 y32) W ⟨t, 0, none⟩ 0 fun w51 => fH w51 ⟨t, 0, none⟩ fun x0 x1 x2 x3 x4 x5 x6 x7 x8 x9 x10 x11 x12 x13 x14 x15 x16 x17 x18 x19 x20 x21 x22 x23 x24 x25 x26 x27 x28 x29 x30 x31 x32 => K r x0 x1 x2 x3 x4 x5 x6 x7 x8 x9 x10 x11 x12 x13 x14 x15 x16 x17 x18 x19 x20 x21 x22 x23 x24 x25 x26 x27 x28 x29 x30 x31 x32 w51 := by
    intro W r hW hr hK
    simp only [sx, hr.cell]
    refine aQ (r4.ext hW) rfl rfl fun w5 r5 f5 z5 => ?_
    simp only [sx, r5.cell]
    exact hK w5 ((x4.trans hW).new (f5 (· = t) rfl) fun y hy e => by omega)
  have hlen := g.acv h
  refine jk.2 (aP hS.hd (i := 2) (k := .map) (x := some A.ml) rfl (jk.2 (aP (k := .int .i64) (i := 6) (x := v.most) hS.hd rfl ?_)))
  refine WN.Nj hS.li ⟨by rw [iC, hS.hd.cell]; rfl, ?_⟩
  rw [hlen]
  by_cases hfull : (v.L.length : Int) >= v.most
  · rw [decide_eq_true hfull, cond_true]
    exact fail _ 8 (Ext.drew _) r3.drew (h1 hfull)
  rw [decide_eq_false hfull, cond_false]
  have hfl : (v.L.length : Int) < v.most := by omega
  have hSd := hS.ext (Ext.drew _)
  refine jk.2 (aP (k := .ptr) (i := 0) (x := some ⟨A.a.x, 0, none⟩) hSd.hd rfl ?_)
  have r1d := r1.drew
  have r2d := r2.drew
  refine aP (k := .int .i64) (i := 0) (x := b.sw) r1d rfl (aP (k := .int .i64) (i := 1) (x := b.pr) r1d rfl (aP (k := .int .i64) (i := 2) (x := b.ad) r1d rfl (aP (k := .int .i64) (i := 3) (x := b.po) r1d rfl ?_)))
  refine aP (k := .int .i64) (i := 0) (x := b.opr) r2d rfl (aP (k := .int .i64) (i := 1) (x := b.oad) r2d rfl (aP (k := .int .i64) (i := 2) (x := b.opo) r2d rfl ?_))
  refine wF (map_ok hSd.en g.inv b hst) ?_
  rintro r w5 ⟨rfl, hE⟩
  refine MW (WB _ w5) ?_
  rintro _ w6 ⟨rfl, hw6⟩
  subst hw6
  show cond ((codeF (xX c v.e b)) != 0) _ _
  rcases hE with ⟨hne, f5⟩ | ⟨he0, hmay, f5, aB, i, Mi, Mo, Q, G, hfree, hfpB, hE5, hI5⟩
  · have hc : codeF (xX c v.e b) ≠ 0 := by
      unfold codeF; rw [if_neg hne]
      split
      · decide
      split
      · decide
      split <;> decide
    have : (codeF (xX c v.e b) != 0) = true := by rw [bne_iff_ne]; exact hc
    rw [this, cond_true]
    exact fail _ _ (((Ext.drew _).trans f5).trans (Ext.drew w6)) ((r3.drew).ext (f5.trans (Ext.drew w6))) (h2 hfl hne)
  have : (codeF (xX c v.e b) != 0) = false := by rw [he0]; rfl
  rw [this, cond_false]
  have hnbE : ∀ y, w.heap.size <= y -> ¬ DW A.a y := fun y hy hE => hnb y hy ⟨1, hE⟩
  have hS5 := hSd.ab6 f5 hE5 rfl (fun y ⟨k, hk⟩ => by
    match k, hk with
    | 0, ho => exact .inl ⟨0, ho⟩
    | 1, ho => exact .inl ⟨1, ho⟩
    | 2, ho => exact .inl ⟨2, ho⟩
    | 3, ho => exact (hfpB y ho).imp_left fun h => ⟨3, h⟩
    | 4, ho => exact .inl ⟨4, ho⟩
    | 5, ho => exact .inl ⟨5, ho⟩
    | (n + 6), ho => exact ho.elim)
  obtain ⟨fr, hfr, hfn⟩ := Jf 8192 (v.L.map (·.id)) (by rw [List.length_map]; omega)
  have x5 : Ext w4.drew.drew w4.drew.drew := Ext.refl _
  have k1 := (r1d.fr f5 (hnbE _ y5))
  have k2 := (r2d.fr f5 (hnbE _ y6))
  have k3 := (r3.drew.fr f5 (hnbE _ y7))
  have k4 := (r4.drew.fr f5 (hnbE _ y8))
  have hAs : A.s < w.heap.size := h.lt 0 _ rfl
  have z5 := f5.size
  have zd4 : w4.drew.drew.heap.size = w4.heap.size := rfl
  have zw : w.heap.size <= w4.heap.size := x4.size
  refine aG (fun _ W => ∃ n : Int, (0 <= n ∧ n < 8192) ∧ aF w6 W (· = A.s) ∧ Srv W { A with a := { A.a with B := aB } } c { v with e := { v.e with S := v.e.S.set i (some b), Mi := Mi, Mo := Mo, Q := Q, G := G }, nx := n })
    (fun _ W => (((fr : Int) - (match W.cell? ⟨A.s, 5, none⟩ with | some (.int _ n) => n | _ => 0)) % 8192).toNat) ⟨v.nx, hnx, aF.refl _ _, hS5⟩ ?_
  rintro ⟨⟩ W ⟨n, hn, fW, hW⟩ next hnext
  have hWd := hW.ext (Ext.drew W)
  have hc5 : W.cell? ⟨A.s, 5, none⟩ = some (.int .i64 n) := by rw [hW.hd.cell]; rfl
  rw [hc5] at hnext
  simp only at hnext
  refine jk.2 (aP hWd.hd (i := 3) (k := .map) (x := some A.mi) rfl (jk.2 (aP (k := .int .i64) (i := 5) (x := n) hWd.hd rfl ?_)))
  refine zu (k := .ptr) (enc := wJ) (ev := U6) hWd.ld eqN n (UU _) (fun hnone => ?_) (fun y hy => ?_)
  rotate_left
  · simp only [U6, sx, Bool.not_false, hWd.hd.cell]
    refine ⟨by decide, ?_⟩
    have hne : n ≠ (fr : Int) := by
      rintro rfl
      obtain ⟨x, hx, h1, _⟩ := (g.ld _ _).1 hy
      exact hfn (List.mem_map.2 ⟨x, hx, h1⟩)
    obtain ⟨e1, e2, e3, e4⟩ := ab5 hn ⟨by omega, by omega⟩ hne
    rw [e1]
    refine aZ hWd.hd rfl (by simp) fun W2 R2 F2' Z2 => ?_
    have F2 : aF W.drew W2 (· = A.s) := F2' _ rfl
    simp only [List.set_cons_zero, List.set_cons_succ] at R2
    refine hnext _ _ ⟨_, ⟨e2, e3⟩, (fW.ext (Ext.drew W)).trans F2 fun _ _ e => e, hWd.aa3 F2 R2⟩ ?_
    rw [R2.cell]
    exact e4
  simp only [Kind.dec, Option.isNone_none, Bool.not_true, cond_false]
  have hWdd := hWd.ext (Ext.drew _)
  have nob : ∀ y, w.heap.size <= y -> ¬ y = A.s := fun y hy e => by omega
  have k1 := ((k1.fr fW (nob _ y5)).drew).drew
  have k2 := ((k2.fr fW (nob _ y6)).drew).drew
  have k3 := ((k3.fr fW (nob _ y7)).drew).drew
  have k4 := ((k4.fr fW (nob _ y8)).drew).drew
  refine aP (k := .int .i64) (i := 0) (x := b.sw) k1 rfl (aP (k := .int .i64) (i := 1) (x := b.pr) k1 rfl (aP (k := .int .i64) (i := 2) (x := b.ad) k1 rfl (aP (k := .int .i64) (i := 3) (x := b.po) k1 rfl ?_)))
  refine aP (k := .int .i64) (i := 0) (x := b.opr) k2 rfl (aP (k := .int .i64) (i := 1) (x := b.oad) k2 rfl (aP (k := .int .i64) (i := 2) (x := b.opo) k2 rfl ?_))
  refine jk.2 (aP (k := .int .i64) (i := 5) (x := n) hWdd.hd rfl ?_)
  refine aN fun nb w7 r7 e7 z7 f7 => ?_
  have f7d := f7.trans (Ext.drew w7)
  have hS7 := hWdd.ext f7d
  have k1 := k1.ext f7d
  have k3 := k3.ext f7d
  have k4 := k4.ext f7d
  have r7 := r7.drew
  have zW : w6.heap.size <= W.heap.size := fW.size
  have hzd : W.drew.drew.heap.size = W.heap.size := rfl
  have hz7d : w7.drew.heap.size = w7.heap.size := rfl
  refine jk.2 (aP hS7.hd (i := 2) (k := .map) (x := some A.ml) rfl ?_)
  refine aP (k := .int .i64) (i := 0) (x := b.sw) k1 rfl (aP (k := .int .i64) (i := 1) (x := b.pr) k1 rfl (aP (k := .int .i64) (i := 2) (x := b.ad) k1 rfl (aP (k := .int .i64) (i := 3) (x := b.po) k1 rfl ?_)))
  refine jk.2 (aP hS7.hd (i := 3) (k := .map) (x := some A.mi) rfl ?_)
  refine jk.2 (aP (k := .int .i64) (i := 8) (x := n) r7 rfl ?_)
  refine Nc (enc := encI) (ev := U6) hS7.li eqI (kB b) (WU _) (aaf g hk) _ nb fun n8 w8 hst8 => hst8 fun w9 m9 f9 z9 => ?_
  have hml : A.ml < w.heap.size := h.lt 3 _ rfl
  have hmi : A.mi < w.heap.size := h.lt 4 _ rfl
  have hS9 := hS7.aaJ f9 m9 (Cj hS7.nI _ _)
  have nml : ∀ y, w.heap.size <= y -> ¬ y = A.ml := fun y hy e => by omega
  have nmi : ∀ y, w.heap.size <= y -> ¬ y = A.mi := fun y hy e => by omega
  have hnbw : w.heap.size <= nb := by omega
  have r9 := r7.fr f9 (nml _ hnbw)
  have k3 := k3.fr f9 (nml _ y7)
  have k4 := k4.fr f9 (nml _ y8)
  refine Nc (enc := wJ) (ev := U6) hS9.ld eqN n (UU _) hnone _ nb fun n10 w10 hst10 => hst10 fun w11 m11 f11 z11 => ?_
  have hS11 := hS9.aax f11 m11 (Cj hS9.nD _ _)
  have r11 := r9.fr f11 (nmi _ hnbw)
  have k3 := k3.fr f11 (nmi _ y7)
  have k4 := k4.fr f11 (nmi _ y8)
  refine aP (k := .int .i64) (i := 0) (x := d0) k3 rfl ?_
  refine aZ k3 rfl (by simp) fun w12 r12 f12' z12 => ?_
  have f12 : aF w11 w12 (· = a) := f12' _ rfl
  simp only [List.set_cons_zero] at r12
  have hmin : (if (86400 : Int) < d0 then 86400 else d0) = min d0 86400 := by omega
  rw [hmin] at r12
  refine aP (k := .int .i64) (i := 0) (x := min d0 86400) r12 rfl ?_
  have hown1 : ∀ y, dP { A with a := { A.a with B := aB } } v.L y -> dP A v.L y ∨ w4.heap.size <= y := by
    rintro y ⟨k, hk⟩
    match k, hk with
    | 0, ho => exact .inl ⟨0, ho⟩
    | 1, ⟨j, ho⟩ =>
      match j, ho with
      | 0, ho => exact .inl ⟨1, 0, ho⟩
      | 1, ho => exact .inl ⟨1, 1, ho⟩
      | 2, ho => exact .inl ⟨1, 2, ho⟩
      | 3, ho => exact (hfpB y ho).imp (fun h => ⟨1, 3, h⟩) fun h => by omega
      | 4, ho => exact .inl ⟨1, 4, ho⟩
      | 5, ho => exact .inl ⟨1, 5, ho⟩
      | (n + 6), ho => exact ho.elim
    | 2, ho => exact .inl ⟨2, ho⟩
    | 3, ho => exact .inl ⟨3, ho⟩
    | 4, ho => exact .inl ⟨4, ho⟩
    | 5, ho => exact .inl ⟨5, ho⟩
    | (n + 6), ho => exact ho.elim
  have hna : ∀ y, w.heap.size <= y -> y < w4.heap.size -> ¬ dP { A with a := { A.a with B := aB } } v.L y := fun y h1 h2 h3 => by
    rcases hown1 y h3 with h | h
    · exact hnb y h1 h
    · omega
  have hS12 := hS11.fr f12 fun k y hy e => hna a y7 y3 (e ▸ ⟨k, hy⟩)
  have hnbo : ¬ dP { A with a := { A.a with B := aB } } v.L nb := fun ⟨k, hk⟩ => by have := hW.lt k nb hk; omega
  have r12' : Row w12 nb ({ blk := nb, b := b, un := 0, id := n } : bF).v := r11.fr f12 (by omega)
  have hSx := hS12.acC (x := { blk := nb, b := b, un := 0, id := n }) r12' hnbo
  have hlW := g.acH h
  have hown2 : ∀ y, dP { A with a := { A.a with B := aB } } (({ blk := nb, b := b, un := 0, id := n } : bF) :: v.L) y -> dP A v.L y ∨ w4.heap.size <= y := by
    rintro y ⟨k, hk⟩
    match k, hk with
    | 0, ho => exact hown1 y ⟨0, ho⟩
    | 1, ho => exact hown1 y ⟨1, ho⟩
    | 2, ho => exact hown1 y ⟨2, ho⟩
    | 3, ho => exact hown1 y ⟨3, ho⟩
    | 4, ho => exact hown1 y ⟨4, ho⟩
    | 5, ⟨x, hx, e⟩ =>
      rcases List.mem_cons.1 hx with rfl | hx
      · exact .inr (by simp only at e; omega)
      · exact hown1 y ⟨5, x, hx, e⟩
    | (n + 6), ho => exact ho.elim
  refine uU (VL hSx (x := { blk := nb, b := b, un := 0, id := n }) List.mem_cons_self (life := min d0 86400) (by omega) (by omega) ⟨hn.1, by simp only; omega⟩ (.inr (by rw [hlW]; exact hfl)) ht g.wn) ?_
  rintro w13 ⟨f13, ss, F, hfp, hS13⟩
  have hn2 : ∀ y, w.heap.size <= y -> y < w4.heap.size -> ¬ dP { A with a := { A.a with B := aB } } (({ blk := nb, b := b, un := 0, id := n } : bF) :: v.L) y := fun y h1 h2 h3 => by
    rcases hown2 y h3 with h | h
    · exact hnb y h1 h
    · omega
  have r13 := (r12.fr f13 (hn2 a y7 y3)).drew
  have k4 := ((k4.fr f12 (fun e => y9 e.symm)).fr f13 (hn2 t y8 y4)).drew
  simp only [sx, r13.cell]
  refine aQ k4 rfl rfl fun w14 r14 f14' z14 => ?_
  have f14 : aF w13.drew w14 (· = t) := f14' _ rfl
  simp only [sx, r14.cell]
  have ggg : Good c Z { v with e := { v.e with S := v.e.S.set i (some b), Mi := Mi, Mo := Mo, Q := Q, G := G }, nx := n, L := ({ blk := nb, b := b, un := 0, id := n } : bF) :: v.L, LI := BG v.LI (kB b) nb, LD := BG v.LD n nb } [n] :=
    (g.add (x := { blk := nb, b := b, un := 0, id := n }) hk (fun y hy he => by
      have := (g.ld n y.blk).2 ⟨y, hy, he, rfl⟩
      rw [hnone] at this; cases this) hst ⟨hn.1, hn.2⟩ hfree hI5).aa3 n
  have garm := ggg.arm hSx (x := { blk := nb, b := b, un := 0, id := n }) List.mem_cons_self (fun id hid => List.mem_singleton.1 hid) (un := v.now + min d0 86400) (by simp only; omega) (by have := h.wh.wi.nw; have := g.wn; simp only; omega) (v.tn + 1) F
  have hL : yX nb (v.now + min d0 86400) (({ blk := nb, b := b, un := 0, id := n } : bF) :: v.L) = { blk := nb, b := b, un := v.now + min d0 86400, id := n } :: v.L := by
    have := Zb (n := nb) (un := v.now + min d0 86400) (L := v.L) fun y hy e => by have := h.lt 5 y.blk ⟨y, hy, rfl⟩; omega
    unfold yX at this ⊢
    rw [List.map_cons, if_pos rfl, this]
  have own3 : ∀ y, dP { A with a := { A.a with B := aB }, ss := ss } (yX nb (v.now + min d0 86400) (({ blk := nb, b := b, un := 0, id := n } : bF) :: v.L)) y -> dP { A with a := { A.a with B := aB } } (({ blk := nb, b := b, un := 0, id := n } : bF) :: v.L) y ∨ w12.heap.size <= y :=
    Kq rfl rfl rfl rfl (fun y hy => .inl (by rw [Nr] at hy; exact hy)) hfp
  have s9 := f9.size
  have s11 := f11.size
  have s12 := f12.size
  refine h3 hfl he0 w14 _ _ nb n i ⟨(hS13.ext (Ext.drew w13)).fr f14 fun k y hy e => ?_, garm, ?_, rfl, rfl, ?_, rfl, rfl, by simp, hn, rfl⟩ hL hfree rfl
  · rcases own3 y ⟨k, hy⟩ with h | h
    · exact hn2 t y8 y4 (e ▸ h)
    · omega
  · have q6 : aF w w6 (dP A v.L) := ((x4.trans (Ext.drew _)).fr f5).mono fun y hy => ⟨1, hy⟩
    have qW : aF w W (dP A v.L) := q6.trans fW fun y _ hy => ⟨0, hy⟩
    have q7 : aF w w7.drew (dP A v.L) := qW.ext (((Ext.drew W).trans (Ext.drew _)).trans f7d)
    have q9 : aF w w9 (dP A v.L) := q7.trans f9 fun y _ hy => ⟨3, hy⟩
    have q11 : aF w w11 (dP A v.L) := q9.trans f11 fun y _ hy => ⟨4, hy⟩
    have q12 : aF w w12 (dP A v.L) := q11.trans f12 fun y h1 hy => by omega
    have q13 : aF w w13 (dP A v.L) := q12.trans f13 fun y h1 hy => by
      rcases hown2 y hy with h | h
      · exact h
      · omega
    exact (q13.ext (Ext.drew w13)).trans f14 fun y h1 hy => by omega
  · intro y hy
    rcases own3 y hy with h | h
    · rcases hown2 y h with h | h
      · exact .inl h
      · exact .inr (by omega)
    · exact .inr (by omega)
end Go.Proofs.PS
end
section
namespace Go.Proofs.PS
open Gp Go.Proofs Go.Proofs.EN
open Gp.Bind (Bnd Slots live GoodB freeN getS In64)
open Gp.Wh (Tm)
set_option maxRecDepth 100000
set_option maxHeartbeats 1000000
variable {w w' : World} {A : SA} {c : Cf} {Z : Bnd -> Prop} {v : SV}
inductive Au (c : Cf) (v : SV) (b : Bnd) (lf : Int) : Int -> Int -> Int -> Int -> SV -> Prop
  | none : lf = 0 -> (∀ y ∈ v.L, y.k ≠ kB b) -> Au c v b lf 0 lf b.opo b.oad v
  | drop {x : bF} {i : Nat} {v' : SV} : lf = 0 -> x ∈ v.L -> x.k = kB b -> v.e.S[i]? = some (some x.b) -> v'.L = (v.L.filter fun y => !(y.blk == x.blk)) -> v'.e.S = v.e.S.set i .none -> Au c v b lf 0 lf b.opo b.oad v'
  | ext {x : bF} : lf ≠ 0 -> x ∈ v.L -> x.k = kB b -> (b.oad ≠ 0 ∨ b.opo ≠ 0) -> ¬ (b.opr = x.b.opr ∧ b.oad = x.b.oad ∧ b.opo = x.b.opo) -> Au c v b lf 11 lf b.opo b.oad v
  | renew {x : bF} {v' : SV} : lf ≠ 0 -> x ∈ v.L -> x.k = kB b -> ¬ ((b.oad ≠ 0 ∨ b.opo ≠ 0) ∧ ¬ (b.opr = x.b.opr ∧ b.oad = x.b.oad ∧ b.opo = x.b.opo)) -> v'.L = yX x.blk (v.now + min lf 86400) v.L -> v'.e = v.e -> Au c v b lf 0 (min lf 86400) x.b.opo x.b.oad v'
  | full : lf ≠ 0 -> (∀ y ∈ v.L, y.k ≠ kB b) -> (v.L.length : Int) >= v.most -> Au c v b lf 8 lf b.opo b.oad v
  | map : lf ≠ 0 -> (∀ y ∈ v.L, y.k ≠ kB b) -> (v.L.length : Int) < v.most -> xX c v.e b ≠ 0 -> Au c v b lf (codeF (xX c v.e b)) lf b.opo b.oad v
  | add {n : Nat} {id : Int} {i : Nat} {v' : SV} : lf ≠ 0 -> (∀ y ∈ v.L, y.k ≠ kB b) -> (v.L.length : Int) < v.most -> xX c v.e b = 0 -> v'.L = ⟨n, b, v.now + min lf 86400, id⟩ :: v.L -> freeN v.e.S = some i -> v'.e.S = v.e.S.set i (some b) -> Au c v b lf 0 (min lf 86400) b.opo b.oad v'
theorem V3 {A A' : SA} {L : List bF} {p : bF -> Bool} {n : Nat} (h : ∀ b, dP A' L b -> dP A L b ∨ n <= b) : ∀ b, dP A' (L.filter p) b -> dP A L b ∨ n <= b := by
  rintro b ⟨k, hk⟩
  match k, hk with
  | 0, ho => exact h b ⟨0, ho⟩
  | 1, ho => exact h b ⟨1, ho⟩
  | 2, ho => exact h b ⟨2, ho⟩
  | 3, ho => exact h b ⟨3, ho⟩
  | 4, ho => exact h b ⟨4, ho⟩
  | 5, ⟨x, hx, e⟩ => exact h b ⟨5, x, (List.mem_filter.1 hx).1, e⟩
  | (n + 6), ho => exact ho.elim
theorem abp (h : Srv w A c v) (g : Good c Z v []) (hnx : 0 <= v.nx ∧ v.nx < 8192) (ht : v.tn < 2 ^ 62) (hm : v.most <= 4096) {sw pr ad po d0 d1 d2 d3 d4 d5 d6 d7 d8 d9 d10 d11 d12 d13 d14 d15 d16 d17 d18 d19 d20 d21 d22 d23 d24 d25 d26 d27 d28 d29 d30 d31 d32 : Int} (hl : 0 <= d0 ∧ d0 < 4294967296) {K : Int -> Int -> Int -> Int -> Int -> Int -> Int -> Int -> Int -> Int -> Int -> Int -> Int -> Int -> Int -> Int -> Int -> Int -> Int -> Int -> Int -> Int -> Int -> Int -> Int -> Int -> Int -> Int -> Int -> Int -> Int -> Int -> Int -> Int -> World -> Prop}
    (hK : ∀ r e0 e31 e32 w' A' v', Out c Z w A v w' A' v' -> Au c v ⟨sw, pr, ad, po, d29, d32, d31, true⟩ d0 r e0 e31 e32 v' -> K r e0 d1 d2 d3 d4 d5 d6 d7 d8 d9 d10 d11 d12 d13 d14 d15 d16 d17 d18 d19 d20 d21 d22 d23 d24 d25 d26 d27 d28 d29 d30 e31 e32 w') :
    rM (some ⟨A.s, 0, none⟩) sw pr ad po d0 d1 d2 d3 d4 d5 d6 d7 d8 d9 d10 d11 d12 d13 d14 d15 d16 d17 d18 d19 d20 d21 d22 d23 d24 d25 d26 d27 d28 d29 d30 d31 d32 w K := by
  apply Fg
  refine aN fun ai w1 r1 e1 z1 f1 => ?_
  refine aN fun a w2 r2 e2 z2 f2 => ?_
  refine aN fun t w3 r3 e3 z3 f3 => ?_
  have x3 := ((f1.trans f2).trans f3).trans (Ext.drew w3)
  have hS := h.ext x3
  have r1 := ((r1.ext f2).ext f3).drew
  have r2 := (r2.ext f3).drew
  have r3 := r3.drew
  have hwd : w3.drew.heap.size = w3.heap.size := rfl
  refine jk.2 (aP hS.hd (i := 2) (k := .map) (x := some A.ml) rfl ?_)
  refine aP (k := .int .i64) (i := 0) (x := sw) r1 rfl (aP (k := .int .i64) (i := 1) (x := pr) r1 rfl (aP (k := .int .i64) (i := 2) (x := ad) r1 rfl (aP (k := .int .i64) (i := 3) (x := po) r1 rfl ?_)))
  have fin : ∀ W r, Row W a (dw d0 d1 d2 d3 d4 d5 d6 d7 d8 d9 d10 d11 d12 d13 d14 d15 d16 d17 d18 d19 d20 d21 d22 d23 d24 d25 d26 d27 d28 d29 d30 d31 d32) -> Row W t (dw 0 0 0 0 0 0 0 0 0 0 0 0 0 0 0 0 0 0 0 0 0 0 0 0 0 0 0 0 0 0 0 0 0) -> (∀ w', aF W w' (· = t) -> K r d0 d1 d2 d3 d4 d5 d6 d7 d8 d9 d10 d11 d12 d13 d14 d15 d16 d17 d18 d19 d20 d21 d22 d23 d24 d25 d26 d27 d28 d29 d30 d31 d32 w') -> fH W ⟨a, 0, none⟩ fun y0 y1 y2 y3 y4 y5 y6 y7 y8 y9 y10 y11 y12 y13 y14 y15 y16 y17 y18 y19 y20 y21 y22 y23 y24 y25 y26 y27 y28 y29 y30 y31 y32 => iT (dw y0 y1 y2 y3 y4 y5 y6 y7 y8 y9 y10 y11 y12 y13 y14 y15 y16 y17 y18 y19 y20 y21 y22 y23 y24 y25 y26 y27 y28 y29 y30 y31 y32) W ⟨t, 0, none⟩ 0 fun w51 => fH w51 ⟨t, 0, none⟩ fun x0 x1 x2 x3 x4 x5 x6 x7 x8 x9 x10 x11 x12 x13 x14 x15 x16 x17 x18 x19 x20 x21 x22 x23 x24 x25 x26 x27 x28 x29 x30 x31 x32 => K r x0 x1 x2 x3 x4 x5 x6 x7 x8 x9 x10 x11 x12 x13 x14 x15 x16 x17 x18 x19 x20 x21 x22 x23 x24 x25 x26 x27 x28 x29 x30 x31 x32 w51 := by
    intro W r hr ht hK
    simp only [sx, hr.cell]
    refine aQ ht rfl rfl fun w5 r5 f5 z5 => ?_
    simp only [sx, r5.cell]
    exact hK w5 (f5 (· = t) rfl)
  have fin2 : ∀ W r q0 q1 q2 q3 q4 q5 q6 q7 q8 q9 q10 q11 q12 q13 q14 q15 q16 q17 q18 q19 q20 q21 q22 q23 q24 q25 q26 q27 q28 q29 q30 q31 q32, Row W t (dw 0 0 0 0 0 0 0 0 0 0 0 0 0 0 0 0 0 0 0 0 0 0 0 0 0 0 0 0 0 0 0 0 0) -> (∀ w', aF W w' (· = t) -> K r q0 q1 q2 q3 q4 q5 q6 q7 q8 q9 q10 q11 q12 q13 q14 q15 q16 q17 q18 q19 q20 q21 q22 q23 q24 q25 q26 q27 q28 q29 q30 q31 q32 w') -> iT (dw q0 q1 q2 q3 q4 q5 q6 q7 q8 q9 q10 q11 q12 q13 q14 q15 q16 q17 q18 q19 q20 q21 q22 q23 q24 q25 q26 q27 q28 q29 q30 q31 q32) W ⟨t, 0, none⟩ 0 fun w51 => fH w51 ⟨t, 0, none⟩ fun x0 x1 x2 x3 x4 x5 x6 x7 x8 x9 x10 x11 x12 x13 x14 x15 x16 x17 x18 x19 x20 x21 x22 x23 x24 x25 x26 x27 x28 x29 x30 x31 x32 => K r x0 x1 x2 x3 x4 x5 x6 x7 x8 x9 x10 x11 x12 x13 x14 x15 x16 x17 x18 x19 x20 x21 x22 x23 x24 x25 x26 x27 x28 x29 x30 x31 x32 w51 := by
    intro W r q0 q1 q2 q3 q4 q5 q6 q7 q8 q9 q10 q11 q12 q13 q14 q15 q16 q17 q18 q19 q20 q21 q22 q23 q24 q25 q26 q27 q28 q29 q30 q31 q32 ht hK
    refine aQ ht rfl rfl fun w5 r5 f5 z5 => ?_
    simp only [sx, r5.cell]
    exact hK w5 (f5 (· = t) rfl)
  have kB0 : kB ⟨sw, pr, ad, po, d29, d32, d31, true⟩ = (sw, pr, ad, po) := rfl
  have hnb : ∀ y, w.heap.size <= y -> ¬ dP A v.L y := fun y hy ⟨k, hk⟩ => by have := h.lt k y hk; omega
  have outT : ∀ {W W' A' v'}, Out c Z w A v W A' v' -> t < W.heap.size -> (∀ y, dP A' v'.L y -> ¬ y = t) -> aF W W' (· = t) -> Out c Z w A v W' A' v' := by
    intro W W' A' v' o htW ho hf
    refine ⟨o.srv.fr hf fun k y hy e => ho y ⟨k, hy⟩ e, o.good, ?_, o.s, o.x, o.sub, o.now, o.most, o.tn, o.nx, o.en⟩
    exact o.fr.trans hf fun y hy e => by omega
  have nt : ¬ dP A v.L t := hnb t (by omega)
  have rdO : ∀ W (o : Nat) (Q : Int -> Int -> Int -> Prop), Row W o [.int .i64 d29, .int .i64 d32, .int .i64 d31] -> Q d29 d32 d31 -> Ld (.int .i64) W (Addr.add ⟨o, 0, none⟩ 0) fun x => Ld (.int .i64) W (Addr.add ⟨o, 0, none⟩ 1) fun y => Ld (.int .i64) W (Addr.add ⟨o, 0, none⟩ 2) fun z => Q x y z := by
    intro W o Q hr hq
    simp only [sx, hr.cell]
    exact hq
  have rdA : ∀ W (Q : Int -> Int -> Int -> Int -> Int -> Int -> Int -> Int -> Int -> Int -> Int -> Int -> Int -> Int -> Int -> Int -> Int -> Int -> Int -> Int -> Int -> Int -> Int -> Int -> Int -> Int -> Int -> Int -> Int -> Int -> Int -> Int -> Int -> Prop), Row W a (dw d0 d1 d2 d3 d4 d5 d6 d7 d8 d9 d10 d11 d12 d13 d14 d15 d16 d17 d18 d19 d20 d21 d22 d23 d24 d25 d26 d27 d28 d29 d30 d31 d32) -> Q d0 d1 d2 d3 d4 d5 d6 d7 d8 d9 d10 d11 d12 d13 d14 d15 d16 d17 d18 d19 d20 d21 d22 d23 d24 d25 d26 d27 d28 d29 d30 d31 d32 -> fH W ⟨a, 0, none⟩ fun y0 y1 y2 y3 y4 y5 y6 y7 y8 y9 y10 y11 y12 y13 y14 y15 y16 y17 y18 y19 y20 y21 y22 y23 y24 y25 y26 y27 y28 y29 y30 y31 y32 => Q y0 y1 y2 y3 y4 y5 y6 y7 y8 y9 y10 y11 y12 y13 y14 y15 y16 y17 y18 y19 y20 y21 y22 y23 y24 y25 y26 y27 y28 y29 y30 y31 y32 := by
    intro W Q hr hq
    simp only [sx, hr.cell]
    exact hq
  refine WN.Dw (enc := encI) (ev := U6) hS.li eqI (sw, pr, ad, po) (WU _) (fun hnone => ?_) (fun nb hnb' => ?_)
  · have hk : ∀ y ∈ v.L, y.k ≠ (sw, pr, ad, po) := fun y hy e => by
      have := (g.li _ _).2 ⟨y, hy, e, rfl⟩
      rw [hnone] at this; cases this
    refine ⟨_, rfl, ?_⟩
    refine aP (k := .int .i64) (i := 29) (x := d29) r2 rfl (aP (k := .int .i64) (i := 32) (x := d32) r2 rfl (aP (k := .int .i64) (i := 31) (x := d31) r2 rfl ?_))
    refine aN fun o w4 r4 e4 z4 f4 => ?_
    refine aQ r4 rfl rfl fun w5 r5 f5 z5 => ?_
    have x5 : Ext w3.drew w5 := f4.new (f5 (· = o) rfl) fun y hy e => by omega
    have r1 := r1.ext x5
    have r2 := r2.ext x5
    have r3 := r3.ext x5
    have xw := x3.trans x5
    intro J
    have hJ : J false := by
      simp only [J, cond_false]
      refine aP (k := .int .i64) (i := 0) (x := d0) r2 rfl ?_
      by_cases h0 : d0 = 0
      · have : (d0 == 0) = true := by simpa using h0
        rw [this, cond_true]
        refine fin _ _ r2.drew r3.drew fun w' f' => hK 0 d0 d31 d32 w' A v (outT (Out.same h g hnx (xw.trans (Ext.drew w5))) (by have := r3.lt; exact this) (fun y hy e => nt (e ▸ hy)) f') (Au.none h0 hk)
      have : (d0 == 0) = false := by simpa using h0
      rw [this, cond_false]
      refine aP (k := .int .i64) (i := 0) (x := sw) r1 rfl (aP (k := .int .i64) (i := 1) (x := pr) r1 rfl (aP (k := .int .i64) (i := 2) (x := ad) r1 rfl (aP (k := .int .i64) (i := 3) (x := po) r1 rfl ?_)))
      refine rdO _ _ _ r5 (rdA _ _ r2 ?_)
      have zt : t < w5.heap.size := r3.lt
      refine Yx (b := ⟨sw, pr, ad, po, d29, d32, d31, true⟩) (h.ext xw) g hnx ht hm rfl hk (by omega) ?_ ?_ ?_
      · intro hf w6 f6
        refine fin2 _ _ d0 d1 d2 d3 d4 d5 d6 d7 d8 d9 d10 d11 d12 d13 d14 d15 d16 d17 d18 d19 d20 d21 d22 d23 d24 d25 d26 d27 d28 d29 d30 d31 d32 (r3.ext f6) fun w' f' => hK 8 d0 d31 d32 w' A v (outT (Out.same h g hnx (xw.trans f6)) (r3.ext f6).lt (fun y hy e => nt (e ▸ hy)) f') (Au.full h0 hk hf)
      · intro hf hme w6 f6
        refine fin2 _ _ d0 d1 d2 d3 d4 d5 d6 d7 d8 d9 d10 d11 d12 d13 d14 d15 d16 d17 d18 d19 d20 d21 d22 d23 d24 d25 d26 d27 d28 d29 d30 d31 d32 (r3.ext f6) fun w' f' => hK _ d0 d31 d32 w' A v (outT (Out.same h g hnx (xw.trans f6)) (r3.ext f6).lt (fun y hy e => nt (e ▸ hy)) f') (Au.map h0 hk hf hme)
      · intro hf hme w6 A' v' n id i ho hL hfree hS'
        have ho' : Out c Z w A v w6 A' v' := ⟨ho.srv, ho.good, xw.fr ho.fr, ho.s, ho.x, fun y hy => (ho.sub y hy).imp_right fun h => by have := xw.size; omega, ho.now, ho.most, ho.tn, ho.nx, ho.en⟩
        have rt := r3.fr ho.fr nt
        refine fin2 _ _ (min d0 86400) d1 d2 d3 d4 d5 d6 d7 d8 d9 d10 d11 d12 d13 d14 d15 d16 d17 d18 d19 d20 d21 d22 d23 d24 d25 d26 d27 d28 d29 d30 d31 d32 rt fun w' f' => hK 0 _ d31 d32 w' A' v' (outT ho' rt.lt (fun y hy e => ?_) f') (Au.add h0 hk hf hme hL hfree hS')
        subst e
        rcases ho.sub _ hy with h | h
        · exact nt h
        · omega
    clear_value J
    refine aP (k := .int .i64) (i := 0) (x := d0) r2 rfl ?_
    cases (d0 == 0) with
    | true => exact hJ
    | false => exact hJ
  · obtain ⟨x, hx, hxk, hxn⟩ := (g.li _ _).1 hnb'
    subst hxn
    refine ⟨some ⟨x.blk, 0, none⟩, rfl, ?_⟩
    refine aP (k := .int .i64) (i := 29) (x := d29) r2 rfl (aP (k := .int .i64) (i := 32) (x := d32) r2 rfl (aP (k := .int .i64) (i := 31) (x := d31) r2 rfl ?_))
    refine aN fun o w4 r4 e4 z4 f4 => ?_
    refine aQ r4 rfl rfl fun w5 r5 f5 z5 => ?_
    have x5 : Ext w3.drew w5 := f4.new (f5 (· = o) rfl) fun y hy e => by omega
    have r1 := r1.ext x5
    have r2 := r2.ext x5
    have r3 := r3.ext x5
    have xw := x3.trans x5
    have zt : t < w5.heap.size := r3.lt
    have na : ¬ dP A v.L a := hnb a (by have := f1.size; omega)
    intro J
    have hJf : d0 ≠ 0 -> J false := by
      intro h0
      simp only [J, cond_false]
      refine aP (k := .int .i64) (i := 0) (x := d0) r2 rfl ?_
      have : (d0 == 0) = false := by simpa using h0
      rw [this, cond_false, cond_true]
      refine rdO _ _ _ r5 (rdA _ _ r2 ?_)
      refine YK (h.ext xw) g hnx ht hx (by omega) ?_ ?_
      · intro c1 c2 w6 f6
        refine fin2 _ _ d0 d1 d2 d3 d4 d5 d6 d7 d8 d9 d10 d11 d12 d13 d14 d15 d16 d17 d18 d19 d20 d21 d22 d23 d24 d25 d26 d27 d28 d29 d30 d31 d32 (r3.ext f6) fun w' f' => hK 11 d0 d31 d32 w' A v (outT (Out.same h g hnx (xw.trans f6)) (r3.ext f6).lt (fun y hy e => nt (e ▸ hy)) f') (Au.ext h0 hx hxk c1 c2)
      · intro hc w6 A' v' ho hL hE
        have ho' : Out c Z w A v w6 A' v' := ⟨ho.srv, ho.good, xw.fr ho.fr, ho.s, ho.x, fun y hy => (ho.sub y hy).imp_right fun h => by have := xw.size; omega, ho.now, ho.most, ho.tn, ho.nx, ho.en⟩
        have rt := r3.fr ho.fr nt
        refine fin2 _ _ (min d0 86400) d1 d2 d3 d4 d5 d6 d7 d8 d9 d10 d11 d12 d13 d14 d15 d16 d17 d18 d19 d20 d21 d22 d23 d24 d25 d26 d27 d28 d29 d30 x.b.opo x.b.oad rt fun w' f' => hK 0 _ _ _ w' A' v' (outT ho' rt.lt (fun y hy e => ?_) f') (Au.renew h0 hx hxk hc hL hE)
        subst e
        rcases ho.sub _ hy with h | h
        · exact nt h
        · omega
    have hJt : d0 = 0 -> J true := by
      intro h0
      simp only [J, cond_true]
      obtain ⟨hst, i, hi⟩ := g.eb x hx
      refine uY (VA (h.ext xw) g.inv g.ns hx hi hst) ?_
      rintro w6 ⟨f6, ss, F, Mi, Mo, Q, G, hfp, hinv, hS6⟩
      have gd := g.drop h hx hi (P' := []) (fun id hid => Iff.rfl) F hinv
      have rt := (r3.fr f6 nt).drew
      have ho' : Out c Z w A v w6.drew { A with ss := ss } _ := ⟨hS6.ext (Ext.drew w6), gd, (xw.fr f6).ext (Ext.drew w6), rfl, rfl, V3 (Kq rfl rfl rfl rfl (fun y hy => .inl hy) fun y hy => (hfp y hy).imp_right fun h => by have := xw.size; omega), rfl, rfl, (by show v.tn <= v.tn + 1; omega), hnx, rfl⟩
      refine fin _ _ (r2.fr f6 na).drew rt fun w' f' => hK 0 d0 d31 d32 w' _ _ (outT ho' rt.lt (fun y hy e => ?_) f') (Au.drop h0 hx hxk hi rfl rfl)
      subst e
      rcases V3 (Kq (A := A) (A' := { A with ss := ss }) (L := v.L) (L' := v.L) (n := w5.heap.size) rfl rfl rfl rfl (fun y hy => .inl hy) hfp) _ hy with h | h
      · exact nt h
      · omega
    clear_value J
    refine aP (k := .int .i64) (i := 0) (x := d0) r2 rfl ?_
    by_cases h0 : d0 = 0
    · have : (d0 == 0) = true := by simpa using h0
      rw [this, cond_true]
      exact hJt h0
    · have : (d0 == 0) = false := by simpa using h0
      rw [this, cond_false]
      exact hJf h0
end Go.Proofs.PS
end
section
namespace Go.Proofs.PS
open Gp Go.Proofs Go.Proofs.EN Go.Proofs.PM
open Gp.V4 (num)
open Gp.Bind (Bnd Slots live GoodB freeN getS In64)
open Gp.Wh (Tm)
set_option maxRecDepth 100000
set_option maxHeartbeats 1000000
variable {w w' : World} {A : SA} {c : Cf} {Z : Bnd -> Prop} {v : SV}
theorem Yt {x0 x1 x2 x3 x4 x5 x6 x7 x8 x9 x10 x11 x12 x13 x14 x15 y0 y1 y2 y3 y4 y5 y6 y7 y8 y9 y10 y11 y12 y13 y14 y15 : Int} {l m : List UInt8} (hx : [x0, x1, x2, x3, x4, x5, x6, x7, x8, x9, x10, x11, x12, x13, x14, x15] = bi l) (hy : [y0, y1, y2, y3, y4, y5, y6, y7, y8, y9, y10, y11, y12, y13, y14, y15] = bi m) :
    ((x0 == y0) && ((x1 == y1) && ((x2 == y2) && ((x3 == y3) && ((x4 == y4) && ((x5 == y5) && ((x6 == y6) && ((x7 == y7) && ((x8 == y8) && ((x9 == y9) && ((x10 == y10) && ((x11 == y11) && ((x12 == y12) && ((x13 == y13) && ((x14 == y14) && ((x15 == y15) && true)))))))))))))))) = decide (l = m) := by
  have h1 : (l = m) ↔ ([x0, x1, x2, x3, x4, x5, x6, x7, x8, x9, x10, x11, x12, x13, x14, x15] = [y0, y1, y2, y3, y4, y5, y6, y7, y8, y9, y10, y11, y12, y13, y14, y15]) := ⟨fun h => by rw [hx, hy, h], fun h => abw (by rw [<- hx, <- hy, h])⟩
  have h2 : decide (l = m) = decide ([x0, x1, x2, x3, x4, x5, x6, x7, x8, x9, x10, x11, x12, x13, x14, x15] = [y0, y1, y2, y3, y4, y5, y6, y7, y8, y9, y10, y11, y12, y13, y14, y15]) := decide_eq_decide.2 h1
  rw [h2]
  have ib : ∀ x y : Int, (x == y) = decide (x = y) := fun _ _ => rfl
  simp only [ib, List.cons.injEq, Bool.decide_and, and_true, decide_true, Bool.and_true]
def Xf (l : List UInt8) (sw ad : Int) : Bnd := ⟨sw, (uQ l).pr, ad, (uQ l).po, (uQ l).pr, (uQ l).ad, (uQ l).ou, true⟩
def QZ (l : List UInt8) : List UInt8 := (l.drop 8).take 16
def TS (l : List UInt8) : List UInt8 := (l.drop 24).take 12
def kG (l : List UInt8) (r e0 e31 e32 : Int) : PA := ⟨if r = 0 then e0 else 30, (uQ l).pr, (uQ l).po, e31, e32⟩
inductive KG (c : Cf) (v : SV) (sw ad : Int) (l : List UInt8) : Int -> List UInt8 -> SV -> Prop
  | bad : fO l 1 ≠ 0 -> KG c v sw ad l (fO l 1) [] v
  | far : fO l 1 = 0 -> QZ l ≠ mapped ad -> KG c v sw ad l (if DJ 12 ((v.now % 4294967296 : Nat) : Int) (kG l 12 0 (uQ l).ou (uQ l).ad) then 0 else 1) (if DJ 12 ((v.now % 4294967296 : Nat) : Int) (kG l 12 0 (uQ l).ou (uQ l).ad) then Fj 12 ((v.now % 4294967296 : Nat) : Int) (TS l) (kG l 12 0 (uQ l).ou (uQ l).ad) else []) v
  | ans {r e0 e31 e32 : Int} {v' : SV} : fO l 1 = 0 -> QZ l = mapped ad -> Au c v (Xf l sw ad) (uQ l).lf r e0 e31 e32 v' -> KG c v sw ad l (if DJ r ((v.now % 4294967296 : Nat) : Int) (kG l r e0 e31 e32) then 0 else 1) (if DJ r ((v.now % 4294967296 : Nat) : Int) (kG l r e0 e31 e32) then Fj r ((v.now % 4294967296 : Nat) : Int) (TS l) (kG l r e0 e31 e32) else []) v'
theorem Yn {n : Nat} (h : n < 2 ^ 62) : sW .i64 (n : Int) 4294967295 = ((n % 4294967296 : Nat) : Int) := by
  obtain ⟨h1, _⟩ := mask32 (a := (n : Int)) (by unfold In64; omega)
  rw [h1]; omega
theorem Rq (h : Srv w A c v) (g : Good c Z v []) (hnx : 0 <= v.nx ∧ v.nx < 8192) (ht : v.tn < 2 ^ 62) (hm : v.most <= 4096) {sw ad : Int} (had : In64 ad) {s : ah} {l : List UInt8} (hs : mF w s l) (hl : l.length <= 2 ^ 40) {K : ah -> Int -> World -> Prop}
    (hK : ∀ s' e bs w' A' v', Out c Z w A v w' A' v' -> KG c v sw ad l e bs v' -> Buf w' s' (bytesV bs) -> (∀ b, ah.at s' b -> w.heap.size <= b ∧ ¬ dP A' v'.L b) -> K s' e w') :
    dW (some ⟨A.s, 0, none⟩) sw ad s w K := by
  apply CG
  have hnow := h.wh.wi.nw
  have hwn := g.wn
  have hep := Yn (n := v.now) (by omega)
  refine uo (zh h) ?_
  rintro _ w0 ⟨rfl, hw0⟩
  subst hw0
  rw [Bool.not_true, cond_false]
  refine YD hs hl fun d0 d1 d2 d3 d4 d5 d6 d7 d8 d9 d10 d11 d12 d13 d14 d15 d16 d17 d18 d19 d20 d21 d22 d23 d24 d25 d26 d27 d28 d29 d30 d31 d32 w1 f1 hp => ?_
  refine aN fun a w2 r2 e2 z2 f2 => ?_
  refine aQ r2 rfl rfl fun w3 r3 f3 z3 => ?_
  have x3 : Ext w0 w3 := (f1.trans f2).new (f3 (· = a) rfl) fun y hy e => by have := f1.size; omega
  have haw : w0.heap.size <= a := by have := f1.size; omega
  have hnb : ∀ y, w0.heap.size <= y -> ¬ dP A v.L y := fun y hy ⟨k, hk⟩ => by have := h.lt k y hk; omega
  by_cases he : fO l 1 = 0
  rotate_left
  · have : (fO l 1 != 0) = true := by rw [bne_iff_ne]; exact he
    rw [this, cond_true]
    exact hK _ _ [] w3 A v (Out.same h g hnx x3) (KG.bad he) Buf.nil fun b ⟨o, hb⟩ => by cases hb
  have : (fO l 1 != 0) = false := by rw [bne_eq_false_iff_eq]; exact he
  rw [this, cond_false]
  obtain ⟨p0, pc, pn, p29, p30, p31, p32⟩ := hp he
  have hlen : l.length = 60 := by
    unfold fO at he
    split at he
    · omega
    split at he
    · omega
    omega
  have c16 : (QZ l).length = 16 := by unfold QZ; rw [List.length_take, List.length_drop]; omega
  have n12 : (TS l).length = 12 := by unfold TS; rw [List.length_take, List.length_drop]; omega
  have answ : ∀ W A' v' r e0 e31 e32, Out c Z w0 A v W A' v' -> Row W a (dw (kG l r e0 e31 e32).lf d1 d2 d3 d4 d5 d6 d7 d8 d9 d10 d11 d12 d13 d14 d15 d16 d17 d18 d19 d20 d21 d22 d23 d24 d25 d26 d27 d28 d29 d30 e31 e32) -> (∀ y, dP A' v'.L y -> ¬ y = a) -> v'.now = v.now ->
      (KG c v sw ad l (if DJ r ((v.now % 4294967296 : Nat) : Int) (kG l r e0 e31 e32) then 0 else 1) (if DJ r ((v.now % 4294967296 : Nat) : Int) (kG l r e0 e31 e32) then Fj r ((v.now % 4294967296 : Nat) : Int) (TS l) (kG l r e0 e31 e32) else []) v') ->
      Pt (some ⟨A.s, 0, none⟩) fun a50 => Ld (.int .i64) W.drew (a50.add 4) fun x51 => fH W.drew ⟨a, 0, none⟩ fun x0 x1 x2 x3 x4 x5 x6 x7 x8 x9 x10 x11 x12 x13 x14 x15 x16 x17 x18 x19 x20 x21 x22 x23 x24 x25 x26 x27 x28 x29 x30 x31 x32 => n_ r (sW .i64 x51 4294967295) x0 x1 x2 x3 x4 x5 x6 x7 x8 x9 x10 x11 x12 x13 x14 x15 x16 x17 x18 x19 x20 x21 x22 x23 x24 x25 x26 x27 x28 x29 x30 x31 x32 W.drew fun r85 r86 w87 => K r85 r86 w87 := by
    intro W A' v' r e0 e31 e32 ho hr hna hnw hsr
    have hA : A'.s = A.s := ho.s
    have hd := ho.srv.hd.drew
    rw [hA] at hd
    have hr := hr.drew
    refine jk.2 (aP (k := .int .i64) (i := 4) (x := (v'.now : Int)) hd rfl ?_)
    simp only [sx, hr.cell]
    rw [hnw, hep]
    refine Oj (WA (no := TS l) n12 pn) ?_
    rintro s' e w9 ⟨f9, he9, b9, n9⟩
    have hpa : (⟨(kG l r e0 e31 e32).lf, d29, d30, e31, e32⟩ : PA) = kG l r e0 e31 e32 := by
      rw [p29, p30]; rfl
    rw [hpa] at he9 b9
    rw [<- he9] at hsr
    have xx := (Ext.drew W).trans f9
    refine hK s' e _ w9 A' v' ⟨ho.srv.ext xx, ho.good, ho.fr.ext xx, ho.s, ho.x, ho.sub, ho.now, ho.most, ho.tn, ho.nx, ho.en⟩ hsr b9 fun y hy => ?_
    have h1 := n9 y hy
    have h2 := ho.fr.size
    have h3 : W.drew.heap.size = W.heap.size := rfl
    refine ⟨by omega, fun ⟨k, hk⟩ => ?_⟩
    have := ho.srv.lt k y hk
    omega
  intro J
  have hJ : ∀ W A' v' r e0 e31 e32, Out c Z w0 A v W A' v' -> Row W a (dw e0 d1 d2 d3 d4 d5 d6 d7 d8 d9 d10 d11 d12 d13 d14 d15 d16 d17 d18 d19 d20 d21 d22 d23 d24 d25 d26 d27 d28 d29 d30 e31 e32) -> (∀ y, dP A' v'.L y -> ¬ y = a) -> v'.now = v.now ->
      (KG c v sw ad l (if DJ r ((v.now % 4294967296 : Nat) : Int) (kG l r e0 e31 e32) then 0 else 1) (if DJ r ((v.now % 4294967296 : Nat) : Int) (kG l r e0 e31 e32) then Fj r ((v.now % 4294967296 : Nat) : Int) (TS l) (kG l r e0 e31 e32) else []) v') -> J r W := by
    intro W A' v' r e0 e31 e32 ho hr hna hnw hsr
    simp -zeta only [J]
    intro J2
    have hJ2 : ∀ W, Out c Z w0 A v W A' v' -> Row W a (dw (kG l r e0 e31 e32).lf d1 d2 d3 d4 d5 d6 d7 d8 d9 d10 d11 d12 d13 d14 d15 d16 d17 d18 d19 d20 d21 d22 d23 d24 d25 d26 d27 d28 d29 d30 e31 e32) -> J2 W := fun W ho hr => answ W A' v' r e0 e31 e32 ho hr hna hnw hsr
    clear_value J2
    by_cases hr0 : r = 0
    · have : (r != 0) = false := by rw [bne_eq_false_iff_eq]; exact hr0
      rw [this, cond_false]
      have et : (kG l r e0 e31 e32).lf = e0 := by unfold kG; rw [if_pos hr0]
      refine hJ2 W ho ?_
      rw [et]; exact hr
    · have : (r != 0) = true := by rw [bne_iff_ne]; exact hr0
      rw [this, cond_true]
      have et : (kG l r e0 e31 e32).lf = 30 := by unfold kG; rw [if_neg hr0]
      refine aZ hr rfl (by simp) fun w9 r9 f9' z9 => ?_
      have f9 : aF W w9 (· = a) := f9' _ rfl
      refine hJ2 w9 ⟨ho.srv.fr f9 fun k y hy e => hna y ⟨k, hy⟩ e, ho.good, ho.fr.trans f9 fun y hy e => by omega, ho.s, ho.x, ho.sub, ho.now, ho.most, ho.tn, ho.nx, ho.en⟩ ?_
      rw [et]; exact r9
  clear_value J
  have r3d := r3.drew
  have hcv : bytesV (QZ l) = dF d1 d2 d3 d4 d5 d6 d7 d8 d9 d10 d11 d12 d13 d14 d15 d16 := by rw [vN]; unfold QZ; rw [<- pc]; rfl
  refine Bl (o := 1) (m := QZ l) (A := [.int .i64 d0]) (C := [.int .u8 d17, .int .u8 d18, .int .u8 d19, .int .u8 d20, .int .u8 d21, .int .u8 d22, .int .u8 d23, .int .u8 d24, .int .u8 d25, .int .u8 d26, .int .u8 d27, .int .u8 d28, .int .i64 d29, .int .i64 d30, .int .i64 d31, .int .i64 d32]) r3d (by rw [hcv]; rfl) rfl c16 fun u0 u1 u2 u3 u4 u5 u6 u7 u8 u9 u10 u11 u12 u13 u14 u15 hx => ?_
  have hxd : [u0, u1, u2, u3, u4, u5, u6, u7, u8, u9, u10, u11, u12, u13, u14, u15] = [d1, d2, d3, d4, d5, d6, d7, d8, d9, d10, d11, d12, d13, d14, d15, d16] := hx.trans pc.symm
  simp only [List.cons.injEq, and_true] at hxd
  obtain ⟨rfl, rfl, rfl, rfl, rfl, rfl, rfl, rfl, rfl, rfl, rfl, rfl, rfl, rfl, rfl, rfl⟩ := hxd
  refine IG had fun q0 q1 q2 q3 q4 q5 q6 q7 q8 q9 q10 q11 q12 q13 q14 q15 w4 hy f4 => ?_
  have x4 := (x3.trans (Ext.drew w3)).trans f4
  have r4 := r3d.ext f4
  have hck : ∀ R : Prop, R -> Zm (dF u0 u1 u2 u3 u4 u5 u6 u7 u8 u9 u10 u11 u12 u13 u14 u15) w4 (Addr.add ⟨a, 0, none⟩ 1) 0 R := by
    intro R hR
    simp only [sx, yZ, Dq, r4.cell, true_and]
    exact hR
  refine hck _ ?_
  rw [Yt (hx.trans (by rfl)) hy]
  by_cases hc : QZ l = mapped ad
  rotate_left
  · rw [decide_eq_false hc, cond_false]
    have e : kG l 12 d0 d31 d32 = kG l 12 0 (uQ l).ou (uQ l).ad := by rw [p31, p32]; rfl
    refine hJ w4 A v 12 d0 d31 d32 (Out.same h g hnx x4) r4 (fun y hy e => hnb a haw (e ▸ hy)) rfl ?_
    rw [e]
    exact KG.far he hc
  rw [decide_eq_true hc, cond_true]
  simp only [sx, r4.cell]
  refine abp (h.ext x4) g hnx ht hm (by have := PM.Zp l 4; omega) fun r e0 e31 e32 w5 A' v' ho hask => ?_
  have ho' : Out c Z w0 A v w5 A' v' := ⟨ho.srv, ho.good, x4.fr ho.fr, ho.s, ho.x, fun y hy => (ho.sub y hy).imp_right fun h => by have := x4.size; omega, ho.now, ho.most, ho.tn, ho.nx, ho.en⟩
  have r5 := r4.fr ho.fr (hnb a haw)
  refine aQ r5 rfl rfl fun w6 r6 f6' z6 => ?_
  have f6 : aF w5 w6 (· = a) := f6' _ rfl
  have hna : ∀ y, dP A' v'.L y -> ¬ y = a := fun y hy e => by
    subst e
    rcases ho.sub _ hy with h | h
    · exact hnb y haw h
    · have := r4.lt; omega
  refine hJ w6 A' v' r e0 e31 e32 ⟨ho'.srv.fr f6 fun k y hy e => hna y ⟨k, hy⟩ e, ho'.good, ho'.fr.trans f6 fun y hy e => by omega, ho'.s, ho'.x, ho'.sub, ho'.now, ho'.most, ho'.tn, ho'.nx, ho'.en⟩ r6 hna ho.now (KG.ans he hc ?_)
  have eb : Xf l sw ad = ⟨sw, d29, ad, d30, d29, d32, d31, true⟩ := by rw [p29, p30, p31, p32]; rfl
  have e0' : (uQ l).lf = d0 := p0.symm
  rw [eb, e0']
  exact hask
end Go.Proofs.PS
end
section
namespace Go.Proofs.EN
open Gp Go.Proofs
open Gp.Bind (Bnd Slots live GoodB freeN getS In64)
set_option maxRecDepth 100000
set_option maxHeartbeats 2000000
variable {w w' : World} {a : EA} {c : Cf} {e : ES}
def eB (b : Bnd) : List Value := [.int .i64 b.sw, .int .i64 b.pr, .int .i64 b.ad, .int .i64 b.po, .int .i64 b.opr, .int .i64 b.oad, .int .i64 b.opo, .bool b.st]
theorem O6 (b : Bnd) : (eB b).length = 8 := rfl
theorem aa4 (b : Bnd) : ∀ v ∈ eB b, bK v = true := by
  intro v hv
  simp only [eB, List.mem_cons, List.not_mem_nil, or_false] at hv
  rcases hv with rfl | rfl | rfl | rfl | rfl | rfl | rfl | rfl <;> rfl
def eS (b : Gp.Ses.Ses) : List Value := [.int .i64 b.bd, .int .i64 b.st, .int .i64 b.un, .int .i64 b.ra, .int .i64 b.rp]
theorem UN (b : Gp.Ses.Ses) : (eS b).length = 5 := rfl
theorem abm (b : Gp.Ses.Ses) : ∀ v ∈ eS b, bK v = true := by
  intro v hv
  simp only [eS, List.mem_cons, List.not_mem_nil, or_false] at hv
  rcases hv with rfl | rfl | rfl | rfl | rfl <;> rfl
def wJ (x : Int) : Value := .int .i64 x
theorem eqN (a b : Int) : xQ Tryz.prog 16 3 (wJ a) (wJ b) = some (decide (a = b)) := WN.eqW a b
theorem UU (a : Int) : iJ Tryz.prog 3 (wJ a) = true := WN.Vb a
def ZP (l : List (Int × Bnd)) (k : Int) : Option Int := (l.zipIdx.reverse.find? fun x => x.1.1 == k).map fun x => (x.2 : Int)
theorem YJ (l : List (Int × Bnd)) (x : Int × Bnd) (k : Int) : ZP (l ++ [x]) k = if k = x.1 then some (l.length : Int) else ZP l k := by
  unfold ZP
  rw [List.zipIdx_append, List.reverse_append]
  simp only [List.zipIdx_cons, List.zipIdx_nil, List.reverse_cons, List.reverse_nil, List.nil_append, List.singleton_append, List.find?_cons]
  by_cases h : k = x.1
  · subst h; simp
  · have : (x.1 == k) = false := by simpa using fun e => h e.symm
    simp [this, h]
def NI (e : ES) : List Gp.Ses.Ses := (Gp.Ses.live 0 e.SS).map fun x => { x.2 with bd := (ZP (live 0 e.S) x.2.bd).getD 0 }
theorem ZG (d : Nat) (w : World) {K : Value -> World -> Prop} (h : ∀ f w', Row w' f [.pointer (some ⟨d, 0, none⟩)] -> f = w.heap.size -> w'.heap.size = f + 1 -> Ext w w' -> K (Value.func (.func Ah) #[] #[(Value.pointer (some ⟨f, 0, none⟩))]) w') : xR (some ⟨d, 0, none⟩) w K := by
  apply LM
  exact ⟨rfl, aN fun f w1 r1 e1 z1 f1 => h f w1 r1 e1 z1 f1⟩
theorem aan (d : Nat) (w : World) {K : Value -> World -> Prop} (h : ∀ f w', Row w' f [.pointer (some ⟨d, 0, none⟩)] -> f = w.heap.size -> w'.heap.size = f + 1 -> Ext w w' -> K (Value.func (.func rX) #[] #[(Value.pointer (some ⟨f, 0, none⟩))]) w') : oD (some ⟨d, 0, none⟩) w K := by
  apply Cb
  exact ⟨rfl, aN fun f w1 r1 e1 z1 f1 => h f w1 r1 e1 z1 f1⟩
theorem RS (h : qA w a c e) : fK (some ⟨a.d, 0, none⟩) w fun n w' => n = (e.l.length : Int) ∧ w' = w := WN.Zy h.wh.wm
def vwC (now : Nat) (bs ss : ah) (t : Nat) : List Value := [.int .i64 (now : Int), .slice bs.a bs.len bs.cap, .slice ss.a ss.len ss.cap, .int .i64 0, .int .i64 0, .int .i64 (t : Int), .slice none 0 0]
def TF : ah := ⟨none, 0, 0⟩
theorem take_succ {α : Type} {l : List α} {i : Nat} {x : α} (h : l[i]? = some x) : l.take (i + 1) = l.take i ++ [x] := by
  obtain ⟨hi, hx⟩ := List.getElem?_eq_some_iff.1 h
  rw [List.take_succ_eq_append_getElem hi, hx]
theorem ZC (h : qA w a c e) (hsz : e.S.length <= 4096 ∧ e.SS.length <= 4096) {K : Int -> ah -> ah -> Int -> Int -> Int -> ah -> World -> Prop}
    (hK : ∀ bs ss w', Ext w w' -> dn 8 eB w' bs ((live 0 e.S).map (·.2)) -> dn 5 eS w' ss (NI e) -> (∀ b, ah.at bs b -> w.heap.size <= b) -> (∀ b, ah.at ss b -> w.heap.size <= b) -> K (e.now : Int) bs ss 0 0 (e.l.length : Int) TF w') :
    fC (some ⟨a.x, 0, none⟩) w K := by
  apply Ej
  refine aN fun r w1 r1 e1 z1 f1 => ?_
  have h1 := h.ext f1
  refine jD (Dk h1) ?_
  rintro _ w1 ⟨rfl, hw⟩
  subst hw
  rw [Bool.not_true, cond_false]
  intro J
  have hJ : ∀ vb W, Ext w1 W -> Row W vb (vwC e.now TF TF e.l.length) -> w1.heap.size <= vb -> J ⟨vb, 0, none⟩ W := by
    intro vb W hW hv hvb
    simp only [J]
    refine SN.Af (enc := wJ) (ev := wJ) fun w2 m2 z2 f2 => ?_
    refine aN fun q w3 r3 e3 z3 f3 => ?_
    refine aZ r3 rfl (by simp) fun w4 r4 f4' z4 => ?_
    have f4 : aF w3 w4 (· = q) := f4' _ rfl
    simp only [List.set_cons_zero] at r4
    have hvl := hv.lt
    have x4 : Ext W w4 := (f2.trans f3).new f4 fun y hy e => by omega
    have m4 := (m2.ext f3).fr f4 (by omega)
    have h4 := h1.ext (hW.trans x4)
    have v4 := hv.ext x4
    refine jk.2 (aP (k := .ptr) (i := 2) (x := some ⟨a.B.d, 0, none⟩) h4.hd rfl ?_)
    refine ZG a.B.d w4 fun f w5 r5 e5 z5 f5 => ?_
    have h5 := h4.ext f5
    have m5 := m4.ext f5
    have v5 := v4.ext f5
    have q5 := r4.ext f5
    have zW : w1.heap.size <= W.heap.size := hW.size
    have z14 : W.heap.size + 2 <= w4.heap.size ∧ q < w4.heap.size ∧ W.heap.size < q := by omega
    have hold : ∀ k b, own a k b -> b < w1.heap.size := fun k b hb => Nat.lt_of_lt_of_le (h.lt k b hb) f1.size
    have hla : iL none w5 = w5.heap.size + 1 := rfl
    have hmp : W.heap.size ≠ q ∧ W.heap.size ≠ vb ∧ q ≠ vb := by omega
    refine wo (Go.Proofs.LH c.nb.toNat e.S e.Mi e.Mo a.B f) (fun i X => ∃ bs M, Row X vb (vwC e.now bs TF e.l.length) ∧ dn 8 eB X bs (((live 0 e.S).map (·.2)).take i) ∧ kE wJ wJ X W.heap.size M ∧ (∀ k, d_ M k = ZP ((live 0 e.S).take i) k) ∧
        aF w5 X (fun b => b = vb ∨ b = W.heap.size) ∧ (∀ b, ah.at bs b -> iL none w5 < b) ∧ w5.heap.size + 2 <= X.heap.size)
      (fun _ _ => False) (by simp) ?_ ?_ ?_ (by intro e W W' h; exact h.elim) (by intro e W h; exact h.elim) ?_ ?_ (by intro W h; exact h.elim) (by intro id W h; exact h.elim)
    · intro X hX hz
      refine ⟨TF, [], v5.ext hX, by simpa [TF] using dn.nil, m5.ext hX, fun k => rfl, hX _, (fun b ⟨o, hb⟩ => by cases hb), by omega⟩
    · rintro i X ⟨bs, M, h1, h2, h3, h4', h5', h6, h7⟩
      have hn : ∀ b, b < w1.heap.size -> ¬ (b = vb ∨ b = W.heap.size) := fun b hb e => by omega
      exact ⟨r5.fr h5' (by omega), (h5.db).fr h5' fun b hb => hn b (hold 3 b hb)⟩
    · rintro i X X' ⟨bs, M, h1, h2, h3, h4', h5', h6, h7⟩ hf
      exact ⟨bs, M, h1.fr hf (by omega), h2.fr hf fun b hb e => by have := h6 b hb; omega, h3.fr hf (by omega), h4', h5'.trans hf fun b hb e => by omega, h6, by have := hf.size; omega⟩
    · rintro i x X Kb hx ⟨bs, M, h1, h2, h3, h4', h5', h6, h7⟩ hlt hk _
      rw [show yD (live 0 e.S) = (live 0 e.S).map _ from rfl, List.getElem?_map] at hx
      cases hb : (live 0 e.S)[i]? with
      | none => rw [hb] at hx; simp at hx
      | some p =>
      rw [hb] at hx
      simp only [Option.map_some, Option.some.injEq] at hx
      subst hx
      have hil : i < (live 0 e.S).length := (List.getElem?_eq_some_iff.1 hb).1
      have hll := Gp.Bind.gy e.S 0
      have hbl : bs.len = i := by rw [(h2.sl O6 (by omega)).len, List.length_take, List.length_map]; omega
      refine aN fun u w6 r6 e6 z6 f6 => ?_
      refine aQ r6 rfl rfl fun w7 r7 f7' z7 => ?_
      have x7 : Ext X w7 := f6.new (f7' (· = u) rfl) fun y hy e => by omega
      refine ⟨(x7 fun _ => False).same _ hlt (by simp), ?_⟩
      have fb := aF.aA w7 (iL none w5)
      have zb : (aA w7 (iL none w5)).heap.size = w7.heap.size := by simp [aA]
      have hX7 := x7.size
      have v8 := (h1.ext x7).fr fb (by omega)
      have b8 := (h2.ext x7).fr fb fun b hb e => by have := h6 b hb; omega
      have m8 := (h3.ext x7).fr fb (by omega)
      have q8 := ((q5.fr h5' (by omega)).ext x7).fr fb (by omega)
      have u8 := r7.fr fb (by omega)
      refine aP (k := .map) (i := 0) (x := some W.heap.size) q8 rfl (aP (k := .slice) (i := 1) (x := bs) v8 rfl ?_)
      refine H8 (enc := wJ) (ev := wJ) m8 eqN p.1 (bs.len : Int) (UU _) fun w9 m9 f9 z9 => ?_
      have v9 := v8.fr f9 (by omega)
      have b9 := b8.fr f9 fun b hb e => by have := h6 b hb; omega
      have u9 := u8.fr f9 (by omega)
      refine aP (k := .slice) (i := 1) (x := bs) v9 rfl ?_
      simp only [sx, u9.cell]
      refine aN fun y w10 r10 e10 z10 f10 => ?_
      have sl : iM 8 eB w10 ⟨some ⟨y, 0, none⟩, 1, 1⟩ [p.2] := (dn.row (xs := [p.2]) (by simpa [eB] using r10)).sl O6 (by omega)
      refine iU O6 (b9.ext f10) sl rfl (by omega) aa4 (by simp; omega) (by simp; omega) fun s' w11 b11 f11 p11 => ?_
      have hbv : ¬ ah.at bs vb := fun hb => by have := h6 vb hb; omega
      have hbm : ¬ ah.at bs W.heap.size := fun hb => by have := h6 _ hb; omega
      have v11 := (v9.ext f10).fr f11 hbv
      have m11 := (m9.ext f10).fr f11 hbm
      refine aZ v11 rfl (by simp [vwC]) fun w12 r12 f12' z12 => ?_
      have f12 : aF w11 w12 (· = vb) := f12' _ rfl
      have hs' : ∀ b, ah.at s' b -> iL none w5 < b := fun b hb => by
        rcases p11 b hb with h | h
        · exact h6 b h
        · omega
      have fr : aF (aA X (iL none w5)) w12 (fun b => b = vb ∨ b = W.heap.size ∨ ah.at bs b) := by
        have g1 : aF (aA X (iL none w5)) w9 (fun b => b = vb ∨ b = W.heap.size ∨ ah.at bs b) := (CN.xA (x7 _) _).trans f9 fun b _ hb => .inr (.inl hb)
        exact ((g1.ext f10).trans f11 fun b _ hb => .inr (.inr hb)).trans f12 fun b _ hb => .inl hb
      refine hk w12 _ fr ?_ ⟨s', _, ?_, ?_, m11.fr f12 (by omega), ?_, ?_, hs', ?_⟩
      · rintro b hb1 hb2 (h | h | h)
        · omega
        · omega
        · have := h6 b h; omega
      · exact r12
      · have htk : ((live 0 e.S).map (·.2)).take (i + 1) = ((live 0 e.S).map (·.2)).take i ++ [p.2] := take_succ (by rw [List.getElem?_map, hb]; rfl)
        rw [htk]
        exact b11.fr f12 fun b hb e => by have := hs' b hb; omega
      · intro k
        rw [Ai, take_succ hb, YJ, h4', List.length_take, hbl, Nat.min_eq_left (by omega)]
      · refine (h5'.trans (aF.aA X _) fun b hb e => by omega).trans fr ?_
        rintro b hb (h | h | h)
        · exact .inl h
        · exact .inr h
        · have := h6 b h; omega
      · have := fr.size
        have hbx : (aA X (iL none w5)).heap.size = X.heap.size := by simp [aA]
        omega
    · rintro X ⟨bs, M, b1, b2, b3, b4, b5, b6, b7⟩ hm
      have hyl : (yD (live 0 e.S)).length = (live 0 e.S).length := by simp [yD]
      rw [hyl] at b2 b4
      rw [List.take_of_length_le (by simp)] at b2
      rw [List.take_length] at b4
      have hn : ∀ b, b < w1.heap.size -> ¬ (b = vb ∨ b = W.heap.size) := fun b hb e => by omega
      have hX := h5.fr b5 fun k b hb => hn b (hold k b hb)
      refine jk.2 (aP (k := .ptr) (i := 3) (x := some ⟨a.T.d, 0, none⟩) hX.hd rfl ?_)
      refine aan a.T.d X fun f' w6 r6 e6 z6 f6 => ?_
      have hla' : iL none w6 = w6.heap.size + 1 := rfl
      have h6 := hX.ext f6
      have m6 := b3.ext f6
      have v6 := b1.ext f6
      have q6 := (q5.fr b5 (by omega)).ext f6
      have hm6 : w6.heap[w5.heap.size]? = some (.deferred (some [])) := by
        rw [(f6 fun _ => False).same _ (by omega) (by simp)]; exact hm rfl
      have hviewl : (NI e).length = (Gp.Ses.live 0 e.SS).length := by simp [NI]
      have hlen6 : X.heap.size <= w6.heap.size := f6.size
      refine wo (SN.LH c.ns.toNat e.SS e.M a.T f') (fun i Y => ∃ ss, Row Y vb (vwC e.now bs ss e.l.length) ∧ dn 5 eS Y ss ((NI e).take i) ∧ aF w6 Y (fun b => b = vb) ∧ (∀ b, ah.at ss b -> iL none w6 < b) ∧ w6.heap.size + 2 <= Y.heap.size)
        (fun _ _ => False) (by simp) ?_ ?_ ?_ (by intro e W W' h; exact h.elim) (by intro e W h; exact h.elim) ?_ ?_ (by intro W h; exact h.elim) (by intro id W h; exact h.elim)
      · intro Y hY hz
        exact ⟨TF, v6.ext hY, by simpa [TF] using dn.nil, hY _, (fun b ⟨o, hb⟩ => by cases hb), by omega⟩
      · rintro i Y ⟨ss, g1, g2, g3, g4, g5⟩
        exact ⟨r6.fr g3 (by omega), (h6.se).fr g3 fun b hb e => by have := hold 4 b hb; omega⟩
      · rintro i Y Y' ⟨ss, g1, g2, g3, g4, g5⟩ hf
        exact ⟨ss, g1.fr hf (by omega), g2.fr hf fun b hb e => by have := g4 b hb; omega, g3.trans hf fun b hb e => by omega, g4, by have := hf.size; omega⟩
      · rintro i x Y Kb hx ⟨ss, g1, g2, g3, g4, g5⟩ hlt hk _
        rw [show SN.yS (Gp.Ses.live 0 e.SS) = (Gp.Ses.live 0 e.SS).map _ from rfl, List.getElem?_map] at hx
        cases hb : (Gp.Ses.live 0 e.SS)[i]? with
        | none => rw [hb] at hx; simp at hx
        | some p =>
        rw [hb] at hx
        simp only [Option.map_some, Option.some.injEq] at hx
        subst hx
        have hil : i < (Gp.Ses.live 0 e.SS).length := (List.getElem?_eq_some_iff.1 hb).1
        have hll := Gp.Ses.gy e.SS 0
        have hbl : ss.len = i := by rw [(g2.sl UN (by omega)).len, List.length_take]; omega
        refine aN fun u w7 r7 e7 z7 f7 => ?_
        refine aQ r7 rfl rfl fun w8 r8 f8' z8 => ?_
        have x8 : Ext Y w8 := f7.new (f8' (· = u) rfl) fun y hy e => by omega
        refine ⟨(x8 fun _ => False).same _ hlt (by simp), ?_⟩
        have fb := aF.aA w8 (iL none w6)
        have zb : (aA w8 (iL none w6)).heap.size = w8.heap.size := by simp [aA]
        have hY8 := x8.size
        have v9 := (g1.ext x8).fr fb (by omega)
        have b9 := (g2.ext x8).fr fb fun b hb e => by have := g4 b hb; omega
        have m9 := ((m6.fr g3 (by omega)).ext x8).fr fb (by omega)
        have q9 := ((q6.fr g3 (by omega)).ext x8).fr fb (by omega)
        have u9 := r8.fr fb (by omega)
        refine aP (k := .map) (i := 0) (x := some W.heap.size) q9 rfl (aP (k := .int .i64) (i := 0) (x := p.2.bd) u9 rfl ?_)
        have hplace : ∀ Q : Int -> Prop, Q ((ZP (live 0 e.S) p.2.bd).getD 0) -> oL Tryz.prog 3 (.int .i64) (some W.heap.size) (Value.int .i64 p.2.bd) (Value.int .i64 0) (aA w8 (iL none w6)) Q := by
          intro Q hQ
          refine zu (k := .int .i64) (enc := wJ) (ev := wJ) m9 eqN p.2.bd (UU _) (fun hn => ?_) (fun b hb => ?_)
          · rw [b4] at hn
            rw [hn] at hQ
            simp only [aC]
            exact hQ
          · rw [b4] at hb
            rw [hb] at hQ
            simp only [wJ, aC]
            exact hQ
        refine hplace _ ?_
        refine aZ u9 rfl (by simp) fun w10 r10 f10' z10 => ?_
        have f10 : aF (aA w8 (iL none w6)) w10 (· = u) := f10' _ rfl
        simp only [List.set_cons_zero] at r10
        have v10 := v9.fr f10 (by omega)
        have b10 := b9.fr f10 fun b hb e => by have := g2.lt hb; omega
        refine aP (k := .slice) (i := 2) (x := ss) v10 rfl ?_
        simp only [sx, r10.cell]
        refine aN fun y w11 r11 e11 z11 f11 => ?_
        have sl : iM 5 eS w11 ⟨some ⟨y, 0, none⟩, 1, 1⟩ [({ p.2 with bd := (ZP (live 0 e.S) p.2.bd).getD 0 } : Gp.Ses.Ses)] := (dn.row (xs := [({ p.2 with bd := (ZP (live 0 e.S) p.2.bd).getD 0 } : Gp.Ses.Ses)]) (by simpa [eS] using r11)).sl UN (by omega)
        refine iU UN (b10.ext f11) sl rfl (by omega) abm (by simp; omega) (by simp; omega) fun s' w12 b12 f12 p12 => ?_
        have hbv : ¬ ah.at ss vb := fun hb => by have := g4 vb hb; omega
        have v12 := (v10.ext f11).fr f12 hbv
        refine aZ v12 rfl (by simp [vwC]) fun w13 r13 f13' z13 => ?_
        have f13 : aF w12 w13 (· = vb) := f13' _ rfl
        have hs' : ∀ b, ah.at s' b -> iL none w6 < b := fun b hb => by
          rcases p12 b hb with h | h
          · exact g4 b h
          · omega
        have fr : aF (aA Y (iL none w6)) w13 (fun b => b = vb ∨ ah.at ss b) := by
          have g1 : aF (aA Y (iL none w6)) w10 (fun b => b = vb ∨ ah.at ss b) := (CN.xA (x8 _) _).trans f10 fun b hb e => by (have : (aA Y (iL none w6)).heap.size = Y.heap.size := by simp [aA]); omega
          exact ((g1.ext f11).trans f12 fun b _ hb => .inr hb).trans f13 fun b _ hb => .inl hb
        refine hk w13 _ fr ?_ ⟨s', r13, ?_, ?_, hs', ?_⟩
        · rintro b hb1 hb2 (h | h)
          · omega
          · have := g4 b h; omega
        · have htk : (NI e).take (i + 1) = (NI e).take i ++ [({ p.2 with bd := (ZP (live 0 e.S) p.2.bd).getD 0 } : Gp.Ses.Ses)] := take_succ (by unfold NI; rw [List.getElem?_map, hb]; rfl)
          rw [htk]
          exact b12.fr f13 fun b hb e => by have := hs' b hb; omega
        · refine (g3.trans (aF.aA Y _) fun b hb e => by omega).trans fr ?_
          rintro b hb (h | h)
          · exact h
          · have := g4 b h; omega
        · have := fr.size
          have hbx : (aA Y (iL none w6)).heap.size = Y.heap.size := by simp [aA]
          omega
      · rintro Y ⟨ss, g1, g2, g3, g4, g5⟩ hm'
        have hyl : (SN.yS (Gp.Ses.live 0 e.SS)).length = (Gp.Ses.live 0 e.SS).length := by simp [SN.yS]
        rw [hyl, List.take_of_length_le (by omega)] at g2
        simp only [sx, g1.cell, vwC]
        have zz := x4.size
        have rr : Row Y r _ := ((((r1.ext hW).ext (x4.trans f5)).fr b5 (by omega)).ext f6).fr g3 (by omega)
        refine aQ rr rfl rfl fun w7 r7 f7' z7 => ?_
        have f7 : aF Y w7 (· = r) := f7' _ rfl
        have hm7 : w7.heap[w6.heap.size]? = some (.deferred (some [])) := by
          rw [f7.same _ (by omega) (by omega)]; exact hm' rfl
        have fp1 := aF.gB w7 w6.heap.size (.deferred none)
        have fp2 := aF.gB (w7.putObj w6.heap.size (.deferred none)) w5.heap.size (.deferred none)
        refine ⟨hm7, ?_, ?_⟩
        · have e1 : (w7.putObj w6.heap.size (.deferred none)).heap[w5.heap.size]? = w7.heap[w5.heap.size]? := fp1.same _ (by omega) (by omega)
          rw [e1, f7.same _ (by omega) (by omega), g3.same _ (by omega) (by omega)]
          exact hm6
        have r9 := (r7.fr fp1 (by omega)).fr fp2 (by omega)
        simp only [sx, r9.cell]
        refine hK bs ss _ ?_ ?_ ?_ ?_ ?_
        · have q1 : Ext w w5 := (f1.trans hW).trans (x4.trans f5)
          have q2 : Ext w X := q1.new b5 fun b hb e => by have := f1.size; omega
          have q3 : Ext w Y := (q2.trans f6).new g3 fun b hb e => by have := f1.size; omega
          have q4 : Ext w w7 := q3.new f7 fun b hb e => by omega
          exact (q4.new fp1 fun b hb e => by have := q2.size; omega).new fp2 fun b hb e => by have := q1.size; omega
        · have t1 := (b2.ext f6).fr g3 fun b hb e => by have := b6 b hb; omega
          exact ((t1.fr f7 fun b hb e => by have := b6 b hb; omega).fr fp1 fun b hb e => by have := b2.lt hb; omega).fr fp2 fun b hb e => by have := b6 b hb; omega
        · exact ((g2.fr f7 fun b hb e => by have := g4 b hb; omega).fr fp1 fun b hb e => by have := g4 b hb; omega).fr fp2 fun b hb e => by have := g4 b hb; omega
        · intro b hb; have := b6 b hb; have := f1.size; omega
        · intro b hb; have := g4 b hb; have := f1.size; omega
  clear_value J
  have hd := h1.ext (Ext.drew w1)
  have c41 := hd.c41
  have c4 := hd.c4
  simp only [sx, c41, c4]
  refine ⟨?_, ?_⟩
  · refine vW (RS hd) ?_
    rintro n w2 ⟨rfl, hw2⟩
    subst hw2
    refine ⟨c41, aN fun vb w3 r3 e3 z3 f3 => ?_⟩
    refine ⟨zi c4 f3, zi c41 f3, ?_⟩
    refine aQ r3 rfl rfl fun w4 r4 f4' z4 => ?_
    have hwd : w1.drew.heap.size = w1.heap.size := rfl
    exact hJ vb w4 (((Ext.drew w1).trans f3).new (f4' (· = vb) rfl) fun y hy e => by omega) r4 (by omega)
  · refine aN fun vb w3 r3 e3 z3 f3 => ?_
    refine ⟨zi c4 f3, zi c41 f3, ?_⟩
    refine vW (RS (hd.ext f3)) ?_
    rintro n w2 ⟨rfl, hw2⟩
    subst hw2
    refine ⟨zi c41 f3, ?_⟩
    refine aQ r3 rfl rfl fun w4 r4 f4' z4 => ?_
    have hwd : w1.drew.heap.size = w1.heap.size := rfl
    exact hJ vb w4 (((Ext.drew w1).trans f3).new (f4' (· = vb) rfl) fun y hy e => by omega) r4 (by omega)
end Go.Proofs.EN
end
section
namespace Go.Proofs.EN
open Gp Go.Proofs Go.Proofs.CN
open Gp.Bind (Bnd Slots live GoodB freeN getS In64)
set_option maxRecDepth 100000
set_option maxHeartbeats 2000000
def toB (x : T7) : Bnd := ⟨x.1, x.2.1, x.2.2.1, x.2.2.2.1, x.2.2.2.2.1, x.2.2.2.2.2.1, x.2.2.2.2.2.2.1, true⟩
inductive Maps (c : Cf) (e0 : ES) : List Bnd -> ES -> Prop
  | nil : Maps c e0 [] e0
  | no {l : List Bnd} {e : ES} {b : Bnd} : Maps c e0 l e -> xX c e b ≠ 0 -> Maps c e0 (l ++ [b]) e
  | yes {l : List Bnd} {e : ES} {b : Bnd} {i : Nat} {Mi Mo : ByteArray -> Option Int} {Q : List Int} {G : List (PN.O3 × Unit)} : Maps c e0 l e -> xX c e b = 0 -> freeN e.S = some i -> Maps c e0 (l ++ [b]) { e with S := e.S.set i (some b), Mi := Mi, Mo := Mo, Q := Q, G := G }
theorem mP : ∀ (k j : Nat), live j (List.replicate k none) = []
  | 0, _ => rfl
  | k + 1, j => by rw [List.replicate_succ, live]; exact mP k _
theorem Oy : ∀ (k j : Nat), Gp.Ses.live j (List.replicate k none) = []
  | 0, _ => rfl
  | k + 1, j => by rw [List.replicate_succ, Gp.Ses.live]; exact Oy k _
def e0 (n nb ns : Nat) : ES := ⟨0, List.replicate nb none, fun _ => none, fun _ => none, List.replicate n 0, [], List.replicate ns none, fun _ => none, [], 0, 0, fun _ _ => []⟩
theorem Zv {ls lp lt n18 n19 n20 n21 n22 n23 n24 n25 n26 n27 n28 n29 n30 n31 n32 n33 n34 : Int} {p : kS} {n : Nat} {sl : List kS} {pl : List Int} {tl : List T7} (h : Zk p ls lp lt n18 n19 n20 n21 n22 n23 n24 n25 n26 n27 n28 n29 n30 n31 n32 n33 n34 n sl pl tl) :
    (1 <= ls ∧ ls <= 64) ∧ (1 <= lp ∧ lp <= 16) ∧ (0 <= lt ∧ lt <= 64) ∧ (1 <= n18 ∧ n18 <= 65535) ∧ (n18 <= n19 ∧ n19 <= 65535) ∧ (1 <= n20 ∧ n20 <= 4096) ∧ (1 <= n21 ∧ n21 <= 4096) ∧ (1 <= n22 ∧ n22 <= 4096) := by
  have b := h.nums
  simp only [UM, List.mem_cons, List.not_mem_nil, or_false, forall_eq_or_imp, forall_eq, okB] at b
  obtain ⟨b1, b2, b3, b4, b5, b6, b7, b8, _⟩ := b
  refine ⟨b1, b2, ⟨b3.1, ?_⟩, b4, b5, b6, b7, b8⟩
  have := b3.2
  split at this <;> omega
theorem Lu {p : kS} {n : Nat} {sl : List kS} {pl : List Int} {tl : List T7} (h : sG p n sl pl tl = true) : ∀ x ∈ pl, iG x := by
  intro x hx
  unfold sG at h
  simp only [Bool.and_eq_true, Bool.not_eq_true', List.any_eq_false] at h
  have := h.2.2.1 x hx
  simpa using this
theorem Zq {w : World} {p0 p1 p2 p3 p4 p5 p6 p7 p8 p9 p10 p11 p12 p13 p14 p15 : Int} {sw po : ah} {n18 n19 n20 n21 n22 n23 n24 n25 n26 n27 n28 n29 n30 n31 n32 n33 n34 : Int} {st : ah} {sl : List kS} {pl : List Int} {tl : List T7} (hsw : iM 16 e16 w sw sl) (hpo : iM 1 eI w po pl) (hst : iM 7 e7 w st tl) (lsw : sw.len <= 2 ^ 40) (lpo : po.len <= 2 ^ 40) (lst : st.len <= 2 ^ 40)
    {K : Option Addr -> Int -> World -> Prop}
    (hbad : ∀ r w', Ext w w' -> r ≠ 0 -> chk (p0, p1, p2, p3, p4, p5, p6, p7, p8, p9, p10, p11, p12, p13, p14, p15, ()) sw.len po.len st.len n18 n19 n20 n21 n22 n23 n24 n25 n26 n27 n28 n29 n30 n31 n32 n33 n34 sw.len sl pl tl r -> K none r w')
    (hok : Zk (p0, p1, p2, p3, p4, p5, p6, p7, p8, p9, p10, p11, p12, p13, p14, p15, ()) sw.len po.len st.len n18 n19 n20 n21 n22 n23 n24 n25 n26 n27 n28 n29 n30 n31 n32 n33 n34 sw.len sl pl tl -> Aj (p0, p1, p2, p3, p4, p5, p6, p7, p8, p9, p10, p11, p12, p13, p14, p15, ()) sl pl tl sw.len n20 ->
      ∀ w' a e, Ext w w' -> qA w' a ⟨fG p0 p1 p2 p3 p4 p5 p6 p7 p8 p9 p10 p11 p12 p13 p14 p15 sw po n18 n19 n20 n21 n22 n23 n24 n25 n26 n27 n28 n29 n30 n31 n32 n33 n34 st, sw, pl, n18, n19, n20, n21, n22⟩ e -> Inv ⟨fG p0 p1 p2 p3 p4 p5 p6 p7 p8 p9 p10 p11 p12 p13 p14 p15 sw po n18 n19 n20 n21 n22 n23 n24 n25 n26 n27 n28 n29 n30 n31 n32 n33 n34 st, sw, pl, n18, n19, n20, n21, n22⟩ e -> Zl e -> Maps ⟨fG p0 p1 p2 p3 p4 p5 p6 p7 p8 p9 p10 p11 p12 p13 p14 p15 sw po n18 n19 n20 n21 n22 n23 n24 n25 n26 n27 n28 n29 n30 n31 n32 n33 n34 st, sw, pl, n18, n19, n20, n21, n22⟩ (e0 sw.len n21.toNat n22.toNat) (tl.map toB) e -> (∀ k b, own a k b -> w.heap.size <= b) -> K (some ⟨a.x, 0, none⟩) 0 w') :
    wu p0 p1 p2 p3 p4 p5 p6 p7 p8 p9 p10 p11 p12 p13 p14 p15 sw po n18 n19 n20 n21 n22 n23 n24 n25 n26 n27 n28 n29 n30 n31 n32 n33 n34 st w K := by
  apply TN
  refine aN fun a w1 r1 e1 z1 f1 => ?_
  have rd : ∀ W (Q : _), Row W a (fG p0 p1 p2 p3 p4 p5 p6 p7 p8 p9 p10 p11 p12 p13 p14 p15 sw po n18 n19 n20 n21 n22 n23 n24 n25 n26 n27 n28 n29 n30 n31 n32 n33 n34 st) -> Q p0 p1 p2 p3 p4 p5 p6 p7 p8 p9 p10 p11 p12 p13 p14 p15 sw po n18 n19 n20 n21 n22 n23 n24 n25 n26 n27 n28 n29 n30 n31 n32 n33 n34 st -> uT W ⟨a, 0, none⟩ Q := by
    intro W Q hr hq
    simp only [sx, hr.cell]
    exact hq
  refine rd _ _ r1 ?_
  refine JM (Ya (hsw.ext f1) (hpo.ext f1) (hst.ext f1) lsw lpo lst) ?_
  rintro r w2 ⟨hc, f2⟩
  have x2 := f1.trans f2
  by_cases hr : r = 0
  rotate_left
  · have : (r != 0) = true := by rw [bne_iff_ne]; exact hr
    rw [this, cond_true]
    exact hbad r w2 x2 hr hc
  have : (r != 0) = false := by rw [bne_eq_false_iff_eq]; exact hr
  rw [this, cond_false]
  subst hr
  rcases hc with ⟨_, h⟩ | ⟨hOk, ⟨_, h⟩ | ⟨hfine, _⟩⟩
  · cases h
  · cases h
  have hK := hok hOk hfine
  have hn := Zv hOk
  obtain ⟨b1, b2, b3, b4, b5, b6, b7, b8⟩ := hn
  have r2 := r1.ext f2
  refine rd _ _ r2 ?_
  refine aN fun x w3 r3 e3 z3 f3 => ?_
  have x3 := x2.trans f3
  have r2 := r2.ext f3
  refine aP (k := .slice) (i := 17) (x := po) r2 rfl (aP (k := .int .i64) (i := 18) (x := n18) r2 rfl (aP (k := .int .i64) (i := 19) (x := n19) r2 rfl ?_))
  have hpl := (hpo.ext x3).len
  refine Tc (PN.LP (hpo.ext x3) (by omega) (by omega) hfine.2.1 (Lu hOk.parts) (by omega) (by omega) (by omega)) ?_
  rintro _ _ w4 ⟨rfl, f4, p, g, ps, rfl, hP, nP⟩
  have lP : ∀ b, PN.fp p g ps b -> b < w4.heap.size := fun b hb => by
    rcases hb with h | h | h
    · rw [h]; exact hP.hd.lt
    · rw [h]; exact hP.gv.lt
    · exact hP.ad.lt h
  have r2 := r2.ext f4
  refine jk.2 (aZ (i := 0) (r3.ext f4) rfl (by simp) fun w5 r5 f5' z5 => ?_)
  have f5 : aF w4 w5 (· = x) := f5' _ rfl
  have zx : x < w3.heap.size ∧ a < x := by have := f2.size; omega
  have hP := hP.fr f5 fun b hb e => by have := nP b hb; omega
  have r2 := r2.fr f5 (by omega)
  refine aP (k := .slice) (i := 16) (x := sw) r2 rfl (aP (k := .int .i64) (i := 20) (x := n20) r2 rfl ?_)
  refine PD (QN.LP (sw.len : Int) n20 w5) ?_
  rintro q _ w6 ⟨f6, hq⟩
  have f6 : Ext w5 w6 := f6
  rcases hq with ⟨hnew, rfl, qb, qs, rfl, nq1, nq2, hQ⟩ | ⟨hnn, _, _⟩
  rotate_left
  · exact absurd ⟨by omega, by omega, by omega, by omega⟩ hnn
  have lQ : qb < w6.heap.size ∧ qs < w6.heap.size := ⟨hQ.hd.lt, hQ.row.lt⟩
  have hP := hP.ext f6
  have r2 := r2.ext f6
  refine jk.2 (aZ (i := 1) (r5.ext f6) rfl (by simp) fun w7 r7 f7' z7 => ?_)
  have f7 : aF w6 w7 (· = x) := f7' _ rfl
  have s4 := f4.size
  have s6 := f6.size
  have hP := hP.fr f7 fun b hb e => by have := nP b hb; omega
  have hQ := hQ.fr f7 (by omega) (by omega)
  have r2 := r2.fr f7 (by omega)
  refine aP (k := .int .i64) (i := 21) (x := n21) r2 rfl ?_
  refine Ry (Zw n21 w7) ?_
  rintro _ _ w8 ⟨f8, ⟨hnn, _, _⟩ | ⟨_, _, rfl, B, rfl, nB, hB⟩⟩
  · exact absurd ⟨by omega, by omega⟩ hnn
  have hP := hP.ext f8
  have hQ := hQ.fr (f8 fun _ => False) (by simp) (by simp)
  have r2 := r2.ext f8
  refine jk.2 (aZ (i := 2) (r7.ext f8) rfl (by simp) fun w9 r9 f9' z9 => ?_)
  have f9 : aF w8 w9 (· = x) := f9' _ rfl
  have s8 := f8.size
  have hP := hP.fr f9 fun b hb e => by have := nP b hb; omega
  have hQ := hQ.fr f9 (by omega) (by omega)
  have hB := hB.fr f9 fun b hb e => by have := (nB b hb).1; omega
  have r2 := r2.fr f9 (by omega)
  refine aP (k := .int .i64) (i := 22) (x := n22) r2 rfl ?_
  refine Nw (SN.Zt n22 w9) ?_
  rintro _ _ w10 ⟨f10, ⟨hnn, _, _⟩ | ⟨_, _, rfl, T, rfl, nT, hT⟩⟩
  · exact absurd ⟨by omega, by omega⟩ hnn
  have hP := hP.ext f10
  have hQ := hQ.fr (f10 fun _ => False) (by simp) (by simp)
  have hB := hB.ext f10
  have r2 := r2.ext f10
  refine jk.2 (aZ (i := 3) (r9.ext f10) rfl (by simp) fun w11 r11 f11' z11 => ?_)
  have f11 : aF w10 w11 (· = x) := f11' _ rfl
  have s10 := f10.size
  have lT : ∀ b, SN.fp T b -> b < w10.heap.size := fun b hb => hT.lt hb
  have hP := hP.fr f11 fun b hb e => by have := nP b hb; omega
  have hQ := hQ.fr f11 (by omega) (by omega)
  have hB := hB.fr f11 fun b hb e => by have := (nB b hb).1; omega
  have hT := hT.fr f11 fun b hb e => by have := nT b hb; omega
  have r2 := r2.fr f11 (by omega)
  refine aP (k := .int .i64) (i := 22) (x := n22) r2 rfl ?_
  refine Hg (WN.VB n22 ⟨by omega, by omega⟩ w11) ?_
  rintro _ _ w12 ⟨f12, rfl, d, m, ss, rfl, hW, nW⟩
  have f12 : Ext w11 w12 := f12
  have hP := hP.ext f12
  have hQ := hQ.fr (f12 fun _ => False) (by simp) (by simp)
  have hB := hB.ext f12
  have hT := hT.ext f12
  have r2 := r2.ext f12
  refine jk.2 (aZ (i := 4) (r11.ext f12) rfl (by simp) fun w13 r13 f13' z13 => ?_)
  have f13 : aF w12 w13 (· = x) := f13' _ rfl
  have s12 := f12.size
  have lW : ∀ b, WN.jl d m ss b -> b < w12.heap.size := fun b hb => hW.wm.lt hb
  have hP := hP.fr f13 fun b hb e => by have := nP b hb; omega
  have hQ := hQ.fr f13 (by omega) (by omega)
  have hB := hB.fr f13 fun b hb e => by have := (nB b hb).1; omega
  have hT := hT.fr f13 fun b hb e => by have := nT b hb; omega
  have hW := hW.fr f13 fun b hb e => by have := nW b hb; omega
  have r2 := r2.fr f13 (by omega)
  simp only [List.set_cons_zero, List.set_cons_succ] at r13
  have x13 : Ext w w13 := by
    have q5 := (x3.trans f4).new f5 fun b hb e => by have := x2.size; omega
    have q7 := (q5.trans f6).new f7 fun b hb e => by have := x2.size; omega
    have q9 := (q7.trans f8).new f9 fun b hb e => by have := x2.size; omega
    have q11 := (q9.trans f10).new f11 fun b hb e => by have := x2.size; omega
    exact (q11.trans f12).new f13 fun b hb e => by have := x2.size; omega
  have hqo := QN.aat hnew
  rw [Int.toNat_natCast] at hqo
  have hQ' : QN.QR w13 qb qs (List.replicate sw.len 0) n20 := by simpa using hQ
  have key : ∀ k b, own ⟨x, p, g, ps, qb, qs, B, T, d, m, ss⟩ k b -> (k = 0 ∧ b = x) ∨ (k = 1 ∧ w3.heap.size <= b ∧ b < w4.heap.size) ∨ (k = 2 ∧ w5.heap.size <= b ∧ b < w6.heap.size) ∨ (k = 3 ∧ w7.heap.size <= b ∧ b < w8.heap.size) ∨ (k = 4 ∧ w9.heap.size <= b ∧ b < w10.heap.size) ∨ (k = 5 ∧ w11.heap.size <= b ∧ b < w12.heap.size) := by
    intro k b ho
    match k, ho with
    | 0, ho => exact .inl ⟨rfl, ho⟩
    | 1, ho => exact .inr (.inl ⟨rfl, nP b ho, lP b ho⟩)
    | 2, ho =>
      refine .inr (.inr (.inl ⟨rfl, ?_⟩))
      rcases ho with h | h <;> simp only at h <;> omega
    | 3, ho => exact .inr (.inr (.inr (.inl ⟨rfl, nB b ho⟩)))
    | 4, ho => exact .inr (.inr (.inr (.inr (.inl ⟨rfl, nT b ho, lT b ho⟩))))
    | 5, ho => exact .inr (.inr (.inr (.inr (.inr ⟨rfl, nW b ho, lW b ho⟩))))
    | (n + 6), ho => exact ho.elim
  have hE : qA w13 ⟨x, p, g, ps, qb, qs, B, T, d, m, ss⟩ ⟨fG p0 p1 p2 p3 p4 p5 p6 p7 p8 p9 p10 p11 p12 p13 p14 p15 sw po n18 n19 n20 n21 n22 n23 n24 n25 n26 n27 n28 n29 n30 n31 n32 n33 n34 st, sw, pl, n18, n19, n20, n21, n22⟩ (e0 sw.len n21.toNat n22.toNat) := by
    refine ⟨⟨rfl, rfl, rfl, rfl, rfl, by simp only; omega, by simp only; omega, by simp only; omega, by simp only; omega, Lu hOk.parts⟩, r13, hP, hQ', hqo, hB, hT, hW, ?_, ?_⟩
    · intro k k' b h1 h2
      have h1 := key k b h1
      have h2 := key k' b h2
      omega
    · intro k b h1
      have h1 := key k b h1
      omega
  have hI : Inv ⟨fG p0 p1 p2 p3 p4 p5 p6 p7 p8 p9 p10 p11 p12 p13 p14 p15 sw po n18 n19 n20 n21 n22 n23 n24 n25 n26 n27 n28 n29 n30 n31 n32 n33 n34 st, sw, pl, n18, n19, n20, n21, n22⟩ (e0 sw.len n21.toNat n22.toNat) := by
    refine ⟨by simp [e0], fun i hi => ?_, fun o => ?_, fun j b hj => ?_⟩
    · have h1 : QS (e0 sw.len n21.toNat n22.toNat).S i = 0 := by
        unfold QS
        show ((live 0 (List.replicate n21.toNat none)).filter _).length = 0
        rw [mP]; rfl
      rw [h1]
      show (List.replicate sw.len (0 : Int)).getD i.toNat 0 = ((0 : Nat) : Int)
      rw [List.getD_eq_getElem?_getD, List.getElem?_replicate]
      split <;> rfl
    · constructor
      · intro h; simp [e0] at h
      · rintro ⟨j, b, hj, _⟩
        have hj : (List.replicate n21.toNat (none : Option Bnd))[j]? = some (some b) := hj
        rw [List.getElem?_replicate] at hj
        split at hj <;> simp at hj
    · have hj : (List.replicate n21.toNat (none : Option Bnd))[j]? = some (some b) := hj
      rw [List.getElem?_replicate] at hj
      split at hj <;> simp at hj
  have hS : Zl (e0 sw.len n21.toNat n22.toNat) := Oy _ _
  have hnew : ∀ k b, own ⟨x, p, g, ps, qb, qs, B, T, d, m, ss⟩ k b -> w.heap.size <= b := fun k b h => by
    have h1 := key k b h
    have := x2.size
    omega
  refine aP (k := .slice) (i := 35) (x := st) r2 rfl ?_
  have hlt := hst.len
  refine aG (fun s W => ∃ (j : Nat) (a : EA) (e : ES), j <= tl.length ∧ s.1 = (j : Int) ∧ Ext w W ∧ qA W a ⟨fG p0 p1 p2 p3 p4 p5 p6 p7 p8 p9 p10 p11 p12 p13 p14 p15 sw po n18 n19 n20 n21 n22 n23 n24 n25 n26 n27 n28 n29 n30 n31 n32 n33 n34 st, sw, pl, n18, n19, n20, n21, n22⟩ e ∧ Inv ⟨fG p0 p1 p2 p3 p4 p5 p6 p7 p8 p9 p10 p11 p12 p13 p14 p15 sw po n18 n19 n20 n21 n22 n23 n24 n25 n26 n27 n28 n29 n30 n31 n32 n33 n34 st, sw, pl, n18, n19, n20, n21, n22⟩ e ∧ Zl e ∧ Maps ⟨fG p0 p1 p2 p3 p4 p5 p6 p7 p8 p9 p10 p11 p12 p13 p14 p15 sw po n18 n19 n20 n21 n22 n23 n24 n25 n26 n27 n28 n29 n30 n31 n32 n33 n34 st, sw, pl, n18, n19, n20, n21, n22⟩ (e0 sw.len n21.toNat n22.toNat) ((tl.take j).map toB) e ∧ (∀ k b, own a k b -> w.heap.size <= b) ∧ a.x = x)
    (fun s _ => (st.len - s.1).toNat) ⟨0, _, _, by omega, rfl, x13, hE, hI, hS, Maps.nil, hnew, rfl⟩ ?_
  rintro ⟨i, ⟨⟩⟩ W ⟨j, aj, ej, hj, hi, hx, hEj, hIj, hSj, hMj, hnj, hxj⟩ next hnext
  simp only at hi
  subst hi
  by_cases hl : (j : Int) < (st.len : Int)
  · simp only [hl, decide_true, cond_true]
    have hg := List.getElem?_eq_getElem (show j < tl.length by omega)
    generalize tl[j] = y at hg
    obtain ⟨y0, y1, y2, y3, y4, y5, y6, ⟨⟩⟩ := y
    refine dS tq (by omega) (hst.ext hx) (by omega) (by rw [Int.toNat_natCast]; exact hg) fun ad hc => ?_
    have c0 := hc 0 _ rfl; have c1 := hc 1 _ rfl; have c2 := hc 2 _ rfl; have c3 := hc 3 _ rfl; have c4 := hc 4 _ rfl; have c5 := hc 5 _ rfl; have c6 := hc 6 _ rfl
    simp only [VR, c0, c1, c2, c3, c4, c5, c6, au, KP]
    refine aN fun t w14 r14 e14 z14 f14 => ?_
    refine aQ r14 rfl rfl fun w15 r15 f15' z15 => ?_
    have xx : Ext W w15 := f14.new (f15' (· = t) rfl) fun b hb e => by omega
    simp only [sx, r15.cell]
    have htk : (tl.take (j + 1)).map toB = (tl.take j).map toB ++ [toB (y0, y1, y2, y3, y4, y5, y6, ())] := by rw [take_succ hg, List.map_append]; rfl
    rw [<- hxj]
    refine wF (map_ok (hEj.ext xx) hIj (toB (y0, y1, y2, y3, y4, y5, y6, ())) rfl) ?_
    rintro r w16 ⟨rfl, ⟨hne, f16⟩ | ⟨he, _, f16, A, i, Mi, Mo, Q, G, hfree, hfp, hE', hI'⟩⟩
    · rw [wrap_i64 (by omega) (by omega)]
      have := (hEj.ext xx).ext f16
      refine hnext _ _ ⟨j + 1, aj, ej, by omega, by simp, (hx.trans xx).trans f16, this, hIj, hSj, ?_, hnj, hxj⟩ (by simp only; omega)
      rw [htk]
      exact Maps.no hMj hne
    · rw [wrap_i64 (by omega) (by omega)]
      refine hnext _ _ ⟨j + 1, { aj with B := A }, _, by omega, by simp, (hx.trans xx).new f16 fun b hb ⟨k, hk⟩ => by have := hnj k b hk; omega, hE', hI', hSj, ?_, ?_, hxj⟩ (by simp only; omega)
      · rw [htk]
        exact Maps.yes hMj he hfree
      · intro k b hk
        have zz := (hx.trans xx).size
        match k, hk with
        | 0, ho => exact hnj 0 b ho
        | 1, ho => exact hnj 1 b ho
        | 2, ho => exact hnj 2 b ho
        | 3, ho =>
          rcases hfp b ho with h | h
          · exact hnj 3 b h
          · omega
        | 4, ho => exact hnj 4 b ho
        | 5, ho => exact hnj 5 b ho
        | (n + 6), ho => exact ho.elim
  · simp only [hl, decide_false, cond_false]
    have : j = tl.length := by omega
    subst this
    rw [List.take_length] at hMj
    rw [<- hxj]
    exact hK W aj ej hx hEj hIj hSj hMj hnj
end Go.Proofs.EN
end
section
namespace Go.Proofs.PS
open Gp Go.Proofs Go.Proofs.EN
open Gp.Bind (Bnd Slots live GoodB freeN getS In64)
set_option maxRecDepth 100000
set_option maxHeartbeats 1000000
theorem abx (w : World) : jA (IntKind.u64.wrap ((0 : Nat) : Int)) w fun r w' => r = 0 ∧ w' = w := WN.abx w
theorem abU (s : ah) (lim : Int) (v : Value) (w : World) : dG s 0 ((0 : Nat) : Int) lim v w fun w' => w' = w := by
  apply pX
  refine aG (fun st W => W = w ∧ st.1 = 0 ∧ st.2.1 = 0) (fun _ _ => 0) ⟨rfl, rfl, rfl⟩ ?_
  rintro ⟨a, b, c, d, e, ⟨⟩⟩ W ⟨rfl, ha, hb⟩ next hnext
  simp only at ha hb
  subst ha hb
  have : decide ((IntKind.i64.wrap ((0 : Int) - 0)) <= 12) = true := rfl
  rw [this, cond_true]
  have h : bg s 0 0 v W fun w' => w' = W := by
    apply lH
    refine aG (fun st W' => W' = W ∧ st.1 = 1) (fun _ _ => 0) ⟨rfl, rfl⟩ ?_
    rintro ⟨a, ⟨⟩⟩ W' ⟨rfl, ha⟩ next' hnext'
    simp only at ha
    subst ha
    have : decide ((1 : Int) < 0) = false := rfl
    rw [this, cond_false]
  refine lI h ?_
  rintro w' hw
  exact hw
end Go.Proofs.PS
end
section
namespace Go.Proofs.PS
open Gp Go.Proofs Go.Proofs.EN Go.Proofs.CN Go.Proofs.PM
open Gp.Bind (Bnd Slots live GoodB freeN getS In64)
set_option maxRecDepth 100000
set_option maxHeartbeats 2000000
structure Dc where
  op : Int
  sw : Int
  ad : Int
  nw : Int
  s : ah
  l : List UInt8
def eD (x : Dc) : List Value := [.int .i64 x.op, .int .i64 x.sw, .int .i64 x.ad, .int .i64 x.nw, .slice x.s.a x.s.len x.s.cap]
structure XJ (w : World) (s : ah) (xs : List Dc) : Prop where
  sl : iM 5 eD w s xs
  by_ : ∀ x ∈ xs, mF w x.s x.l
  ad : ∀ x ∈ xs, In64 x.ad
theorem XJ.ext {w w' : World} {s : ah} {xs : List Dc} (h : XJ w s xs) (hf : Ext w w') : XJ w' s xs := ⟨h.sl.ext hf, fun x hx => (h.by_ x hx).ext hf, h.ad⟩
theorem YV {w : World} {p0 p1 p2 p3 p4 p5 p6 p7 p8 p9 p10 p11 p12 p13 p14 p15 : Int} {sw po : ah} {n18 n19 n20 n21 n22 n23 n24 n25 n26 n27 n28 n29 n30 n31 n32 n33 n34 : Int} {st : ah} : o_ p0 p1 p2 p3 p4 p5 p6 p7 p8 p9 p10 p11 p12 p13 p14 p15 sw po n18 n19 n20 n21 n22 n23 n24 n25 n26 n27 n28 n29 n30 n31 n32 n33 n34 st w fun r w' => r = decide (sw.len <= 8 ∧ po.len <= 4 ∧ st.len <= 12) ∧ Ext w w' := by
  apply Ny
  refine aN fun a w1 r1 e1 z1 f1 => ?_
  intro J
  have hJ : ∀ q, q = decide (sw.len <= 8 ∧ po.len <= 4 ∧ st.len <= 12) -> J q := fun q hq => ⟨hq, f1⟩
  clear_value J
  refine aP (k := .slice) (i := 16) (x := sw) r1 rfl ?_
  by_cases c1 : (sw.len : Int) <= 8
  rotate_left
  · rw [decide_eq_false c1, cond_false]
    exact hJ _ (decide_eq_false fun h => by omega).symm
  rw [decide_eq_true c1, cond_true]
  refine aP (k := .slice) (i := 17) (x := po) r1 rfl ?_
  by_cases c2 : (po.len : Int) <= 4
  rotate_left
  · rw [decide_eq_false c2, cond_false]
    exact hJ _ (decide_eq_false fun h => by omega).symm
  rw [decide_eq_true c2, cond_true]
  refine aP (k := .slice) (i := 35) (x := st) r1 rfl ?_
  refine hJ _ (decide_eq_decide.2 ?_)
  omega
theorem wH {w : World} {p0 p1 p2 p3 p4 p5 p6 p7 p8 p9 p10 p11 p12 p13 p14 p15 : Int} {sw po : ah} {n18 n19 n20 n21 n22 n23 n24 n25 n26 n27 n28 n29 n30 n31 n32 n33 n34 : Int} {st : ah} {sl : List kS} {pl : List Int} {tl : List T7} (hsw : iM 16 e16 w sw sl) (hpo : iM 1 eI w po pl) (hst : iM 7 e7 w st tl) {K : Bool -> World -> Prop}
    (h0 : ∀ w', Ext w w' -> K false w')
    (h1 : ∀ w', Ext w w' -> sw.len <= 8 -> po.len <= 4 -> st.len <= 12 -> chk (p0, p1, p2, p3, p4, p5, p6, p7, p8, p9, p10, p11, p12, p13, p14, p15, ()) sw.len po.len st.len n18 n19 n20 n21 n22 n23 n24 n25 n26 n27 n28 n29 n30 n31 n32 n33 n34 sw.len sl pl tl 0 -> K true w') :
    EF p0 p1 p2 p3 p4 p5 p6 p7 p8 p9 p10 p11 p12 p13 p14 p15 sw po n18 n19 n20 n21 n22 n23 n24 n25 n26 n27 n28 n29 n30 n31 n32 n33 n34 st w K := by
  apply MS
  refine aN fun a w1 r1 e1 z1 f1 => ?_
  have rd : ∀ W (Q : _), Row W a (fG p0 p1 p2 p3 p4 p5 p6 p7 p8 p9 p10 p11 p12 p13 p14 p15 sw po n18 n19 n20 n21 n22 n23 n24 n25 n26 n27 n28 n29 n30 n31 n32 n33 n34 st) -> Q p0 p1 p2 p3 p4 p5 p6 p7 p8 p9 p10 p11 p12 p13 p14 p15 sw po n18 n19 n20 n21 n22 n23 n24 n25 n26 n27 n28 n29 n30 n31 n32 n33 n34 st -> uT W ⟨a, 0, none⟩ Q := by
    intro W Q hr hq
    simp only [sx, hr.cell]
    exact hq
  intro J
  have hJ0 : ∀ W, Ext w W -> J false W := fun W hW => h0 W hW
  have hJ1 : ∀ W, Ext w W -> sw.len <= 8 -> po.len <= 4 -> st.len <= 12 -> chk (p0, p1, p2, p3, p4, p5, p6, p7, p8, p9, p10, p11, p12, p13, p14, p15, ()) sw.len po.len st.len n18 n19 n20 n21 n22 n23 n24 n25 n26 n27 n28 n29 n30 n31 n32 n33 n34 sw.len sl pl tl 0 -> J true W := fun W hW => h1 W hW
  clear_value J
  refine rd _ _ r1 ?_
  refine Nk YV ?_
  rintro _ w2 ⟨rfl, f2⟩
  by_cases hs : sw.len <= 8 ∧ po.len <= 4 ∧ st.len <= 12
  rotate_left
  · rw [decide_eq_false hs, cond_false]
    exact hJ0 _ (f1.trans f2)
  rw [decide_eq_true hs, cond_true]
  have x2 := f1.trans f2
  refine rd _ _ (r1.ext f2) ?_
  refine Nz (Ub (hsw.ext x2) (hpo.ext x2) (hst.ext x2) (by omega) (by omega) (by omega)) ?_
  rintro r w3 ⟨hc, f3⟩
  by_cases hr : r = 0
  · subst hr
    exact hJ1 _ (x2.trans f3) hs.1 hs.2.1 hs.2.2 hc
  · have : (r == 0) = false := by simpa using hr
    rw [this]
    exact hJ0 _ (x2.trans f3)
theorem Au.un {c : Cf} {v v' : SV} {b : Bnd} {lf r e0 e31 e32 : Int} (h : Au c v b lf r e0 e31 e32 v') {M : Int} (hM : (v.now : Int) + 86400 <= M) (hv : ∀ x ∈ v.L, x.un <= M) : ∀ x ∈ v'.L, x.un <= M := by
  cases h with
  | none => exact hv
  | ext => exact hv
  | full => exact hv
  | map => exact hv
  | drop _ _ _ _ hL =>
    rw [hL]
    exact fun x hx => hv x (List.mem_filter.1 hx).1
  | renew _ _ _ _ hL =>
    rw [hL]
    intro x hx
    obtain ⟨z, hz, rfl⟩ := ng.1 hx
    split
    · simp only; omega
    · exact hv z hz
  | add _ _ _ _ hL =>
    rw [hL]
    intro x hx
    rcases List.mem_cons.1 hx with rfl | hx
    · simp only; omega
    · exact hv x hx
theorem KG.un {c : Cf} {v v' : SV} {sw ad : Int} {l bs : List UInt8} {e : Int} (h : KG c v sw ad l e bs v') {M : Int} (hM : (v.now : Int) + 86400 <= M) (hv : ∀ x ∈ v.L, x.un <= M) : ∀ x ∈ v'.L, x.un <= M := by
  cases h with
  | bad => exact hv
  | far => exact hv
  | ans _ _ ha => exact ha.un hM hv
end Go.Proofs.PS
end
