import Derived.Test.YtfndjkoiappemaaGreatPc2
import Derived.Test.YtfndjkoiappemaaGreatW9
import Derived.Test.YtfndjkoiappemaaGreatW4
import Derived.Test.YtfndjkoiappemaaGreatW3
section
namespace Gp.V4
theorem aa5 (l : List UInt8) : ∀ n : Nat, l.foldl (fun n b => n * 256 + b.toNat) n = n * 256 ^ l.length + rZ l := by
  induction l with
  | nil => intro n; simp [rZ]
  | cons b l ih =>
    intro n
    simp only [List.foldl_cons, rZ, List.length_cons]
    rw [ih, ih (0 * 256 + b.toNat)]
    rw [Nat.pow_succ, Nat.add_mul, Nat.add_mul, <- Nat.mul_assoc, Nat.mul_right_comm]
    omega
theorem Na (b : UInt8) (l : List UInt8) : rZ (b :: l) = b.toNat * 256 ^ l.length + rZ l := by
  show (b :: l).foldl _ 0 = _
  rw [List.foldl_cons, aa5]; simp
theorem XV (l : List UInt8) : rZ l < 256 ^ l.length := by
  induction l with
  | nil => simp [rZ]
  | cons b l ih =>
    rw [Na, List.length_cons, Nat.pow_succ]
    have := b.toNat_lt
    have h2 : b.toNat * 256 ^ l.length <= 255 * 256 ^ l.length := Nat.mul_le_mul_right _ (by omega)
    omega
theorem Xe (k n : Nat) : rZ (o9 k n) = n % 256 ^ k := by
  induction k with
  | zero => simp [o9, rZ, Nat.mod_one]
  | succ k ih =>
    rw [o9, Na, gW, ih]
    have e : (UInt8.ofNat (n / 256 ^ k)).toNat = n / 256 ^ k % 256 := by simp
    rw [e, Nat.pow_succ, Nat.mod_mul, Nat.mul_comm (256 ^ k), Nat.add_comm]
end Gp.V4
namespace Go.Proofs
open Gp Gp.V4
set_option maxRecDepth 100000
theorem Xh {w : World} {s : ah} {l : List UInt8} (h : mF w s l) (hl : l.length <= 2 ^ 62) (at_ k : Int) : uN s at_ k w fun r e w' => w' = w ∧
    if ¬ sizeOk k ∨ at_ < 0 then e = 1 ∧ r = ⟨none, 0, 0⟩ else if (l.length : Int) < at_ + k then e = 3 ∧ r = ⟨none, 0, 0⟩ else e = 0 ∧ mF w r ((l.drop at_.toNat).take k.toNat) ∧ ∀ a, s.a = some a -> r.a = some (a.add at_.toNat) := by
  apply P6
  have hlen := h.1
  refine Jw (wH k w) ?_
  rintro r w1 ⟨rfl, rfl⟩
  by_cases hk : sizeOk k
  · have hk1 := hk.1
    have hk2 := hk.2
    by_cases ha : at_ < 0
    · simp only [hk, ha, decide_true, Bool.not_true, cond_true, cond_false]
      exact ⟨by trivial, by simp⟩
    · have hno : ¬ (¬ sizeOk k ∨ at_ < 0) := by rintro (h | h) <;> contradiction
      simp only [hk, ha, decide_true, decide_false, Bool.not_true, cond_false, not_true_eq_false, or_self, if_false]
      by_cases h1 : ((s.len : Int) < k)
      · simp only [h1, decide_true, cond_true]
        exact ⟨by trivial, by rw [if_pos (by omega)]; exact ⟨by trivial, by trivial⟩⟩
      · simp only [h1, decide_false, cond_false]
        rw [wrap_i64 (n := (s.len : Int) - k) (by omega) (by omega)]
        by_cases h2 : at_ > (s.len : Int) - k
        · simp only [h2, decide_true, cond_true]
          exact ⟨by trivial, by rw [if_pos (by omega)]; exact ⟨by trivial, by trivial⟩⟩
        · simp only [h2, decide_false, cond_false]
          rw [wrap_i64 (n := at_ + k) (by omega) (by omega)]
          have hcap := h.2.2
          refine ⟨by omega, by omega, by omega, by omega, by trivial, ?_⟩
          rw [if_neg (by omega)]
          have hc := h.cut (lo := at_.toNat) (hi := (at_ + k).toNat) (by omega) (by omega) (at_ + k).toNat (Nat.le_refl _) (at_ + k).toNat (fun e => by omega)
          rw [List.drop_take, show (at_ + k).toNat - at_.toNat = k.toNat by omega] at hc
          refine ⟨by trivial, ?_, fun a hsa => ?_⟩
          · rw [show (at_ + k).toNat - at_.toNat = k.toNat by omega]
            exact hc
          · have hne : ¬ ((at_ + k).toNat = at_.toNat) := by omega
            simp only [Aa, hne, if_false, hsa, Option.map_some, Nat.mul_one]
  · simp only [hk, decide_false, Bool.not_false, cond_true]
    exact ⟨by trivial, by simp⟩
theorem YU {n x : Nat} (hn : n < 2 ^ 40) (hx : x < 256) : orI .i64 (Vt .i64 (n : Int) 8) (x : Int) = ((n * 256 + x : Nat) : Int) := by
  have e0 : Vt .i64 (n : Int) 8 = ((n * 256 : Nat) : Int) := by
    unfold Vt
    have : (2 : Int) ^ (min (8 : Int).toNat (IntKind.bits .i64)) = 256 := by decide
    rw [this, wrap_i64 (by omega) (by omega)]; omega
  rw [e0]
  unfold orI
  have eb : IntKind.bits .i64 = 64 := rfl
  have h1 : (BitVec.ofInt (IntKind.bits .i64) ((n * 256 : Nat) : Int)).toNat = n * 256 := by
    rw [eb, BitVec.toNat_ofInt]; omega
  have h2 : (BitVec.ofInt (IntKind.bits .i64) (x : Int)).toNat = x := by
    rw [eb, BitVec.toNat_ofInt]; omega
  rw [BitVec.toNat_or, h1, h2]
  have h3 : n * 256 ||| x = n * 256 + x := by
    have := Nat.two_pow_add_eq_or_of_lt (i := 8) (b := x) (by omega) n
    rw [show (2 : Nat) ^ 8 = 256 by decide] at this
    rw [Nat.mul_comm n 256, this]
  rw [h3, wrap_i64 (by omega) (by omega)]
theorem Lm {l : List UInt8} (h : l.length <= 4) : rZ l < 2 ^ 32 := by
  have h1 := XV l
  have : (256 : Nat) ^ l.length <= 256 ^ 4 := Nat.pow_le_pow_right (by omega) h
  have e : (256 : Nat) ^ 4 = 4294967296 := by decide
  omega
theorem Uy (l : List UInt8) {i : Nat} (h : i < l.length) : rZ (l.take (i + 1)) = rZ (l.take i) * 256 + l[i].toNat := by
  unfold rZ
  rw [List.take_succ_eq_append_getElem h, List.foldl_append]; rfl
def NM (l : List UInt8) (at_ k : Int) (n e : Int) : Prop :=
  if ¬ sizeOk k ∨ at_ < 0 then e = 1 ∧ n = 0 else if (l.length : Int) < at_ + k then e = 3 ∧ n = 0 else e = 0 ∧ n = (num l at_.toNat k.toNat : Int)
theorem U8 {w : World} {s : ah} {l : List UInt8} (h : mF w s l) (hl : l.length <= 2 ^ 62) (at_ k : Int) : wQ s at_ k w fun n e w' => w' = w ∧ NM l at_ k n e := by
  apply Xi
  refine O_ (Xh h hl at_ k) ?_
  rintro r e w1 ⟨rfl, hr⟩
  have main : ∀ (m : List UInt8), mF w1 r m -> m.length <= 4 -> ∀ (K : Int -> Prop), K (rZ m : Int) -> cu (S := Int × Int × Unit) (fun s7 w8 next9 =>
      (bif (decide (s7.2.1 < (r.len : Int))) then
        bM r 1 s7.2.1 fun a10 => Ld (.int .u8) w8 a10 fun x11 => 0 <= (8 : Int) ∧ next9 ((orI .i64 (Vt .i64 s7.1 8) (IntKind.i64.wrap x11)), (IntKind.i64.wrap (s7.2.1 + 1)), ()) w8
      else (w8 = w1 ∧ K s7.1))) (0, 0, ()) w1 := by
    intro m hm hm4 K hK
    have hml := hm.1
    refine aG (fun st W => W = w1 ∧ ∃ i : Nat, i <= m.length ∧ st.2.1 = i ∧ st.1 = (rZ (m.take i) : Int)) (fun st _ => m.length - st.2.1.toNat) ⟨rfl, 0, by omega, rfl, rfl⟩ ?_
    rintro ⟨n, j, ⟨⟩⟩ W ⟨rfl, i, hi, rfl, rfl⟩ next hnext
    by_cases hlt : i < m.length
    · have hlt' : ((i : Int) < (r.len : Int)) := by omega
      simp only [hlt', decide_true, cond_true]
      obtain ⟨a, ha, hc⟩ := hm.at_ (List.getElem?_eq_getElem hlt)
      refine ⟨a, ha, by omega, by omega, ?_⟩
      simp only [sx, Int.toNat_natCast, Nat.mul_one, hc]
      refine ⟨by omega, ?_⟩
      have hb := m[i].toNat_lt
      have hn2 : rZ (m.take i) < 2 ^ 32 := Lm (by simp; omega)
      rw [wrap_i64 (n := ((m[i].toNat : Nat) : Int)) (by omega) (by omega), YU (by omega) (by omega), wrap_i64 (by omega) (by omega)]
      refine hnext _ _ ⟨rfl, i + 1, by omega, by simp, ?_⟩ (by simp only; omega)
      simp only [Uy _ hlt]
    · have hlt' : ¬ ((i : Int) < (r.len : Int)) := by omega
      simp only [hlt', decide_false, cond_false]
      have : i = m.length := by omega
      subst this
      rw [List.take_length]
      exact ⟨trivial, hK⟩
  by_cases c1 : ¬ sizeOk k ∨ at_ < 0
  · rw [if_pos c1] at hr
    obtain ⟨rfl, rfl⟩ := hr
    exact main [] mF.nil (by simp) (fun n => NM l at_ k n 1) (by unfold NM; rw [if_pos c1]; exact ⟨rfl, rfl⟩)
  · rw [if_neg c1] at hr
    by_cases c2 : (l.length : Int) < at_ + k
    · rw [if_pos c2] at hr
      obtain ⟨rfl, rfl⟩ := hr
      exact main [] mF.nil (by simp) (fun n => NM l at_ k n 3) (by unfold NM; rw [if_neg c1, if_pos c2]; exact ⟨rfl, rfl⟩)
    · rw [if_neg c2] at hr
      obtain ⟨rfl, hr, _⟩ := hr
      refine main _ hr ?_ (fun n => NM l at_ k n 0) (by unfold NM; rw [if_neg c1, if_neg c2]; exact ⟨rfl, rfl⟩)
      have hk : sizeOk k := Classical.byContradiction fun h => c1 (.inl h)
      have := hk.2
      simp; omega
theorem Pn {l : List UInt8} {at_ k : Nat} {n e : Int} (hk : 1 <= k ∧ k <= 4) (h : at_ + k <= l.length) (hr : NM l at_ k n e) : n = (num l at_ k : Int) := by
  unfold NM at hr
  rw [if_neg (by unfold sizeOk; omega), if_neg (by omega)] at hr
  simpa using hr.2
theorem aa1 {l : List UInt8} {at_ k : Nat} (h : k <= 4) : num l at_ k < 2 ^ 32 := Lm (by simp; omega)
theorem byte_at {w : World} {s : ah} {l : List UInt8} (h : mF w s l) {i : Nat} (hi : i < l.length) {K : Addr -> Prop} (hK : ∀ a, w.cell? (a) = some (.int .u8 (l[i].toNat : Int)) -> (a.block < w.heap.size) -> K a) : bM s 1 (i : Int) K := by
  have hsl := h.1
  obtain ⟨a, ha, hc⟩ := h.at_ (List.getElem?_eq_getElem hi)
  exact ⟨a, ha, by omega, by omega, hK _ (by rw [Int.toNat_natCast, Nat.mul_one]; exact hc) (by rw [Int.toNat_natCast, Nat.mul_one]; exact cell_lt hc)⟩
theorem PZ {l : List UInt8} {i : Nat} (h : i < l.length) : num l i 1 = l[i].toNat := by
  unfold num
  rw [List.drop_eq_getElem_cons h, List.take_succ_cons]
  simp [rZ]
def bi (l : List UInt8) : List Int := l.map fun b => (b.toNat : Int)
theorem abw {l m : List UInt8} (h : bi l = bi m) : l = m := by
  unfold bi at h
  refine (List.map_inj_right ?_).1 h
  intro a b hab
  exact UInt8.toNat_inj.1 (by omega)
theorem abu {l : List UInt8} (h : l.length = 16) : ∃ x0 x1 x2 x3 x4 x5 x6 x7 x8 x9 x10 x11 x12 x13 x14 x15 : Int, bi l = [x0, x1, x2, x3, x4, x5, x6, x7, x8, x9, x10, x11, x12, x13, x14, x15] ∧ bytesV l = [.int .u8 x0, .int .u8 x1, .int .u8 x2, .int .u8 x3, .int .u8 x4, .int .u8 x5, .int .u8 x6, .int .u8 x7, .int .u8 x8, .int .u8 x9, .int .u8 x10, .int .u8 x11, .int .u8 x12, .int .u8 x13, .int .u8 x14, .int .u8 x15] := by
  obtain ⟨b0, l0, rfl⟩ := List.exists_cons_of_length_eq_add_one h
  have h0 := Nat.succ.inj h
  obtain ⟨b1, l1, rfl⟩ := List.exists_cons_of_length_eq_add_one h0
  have h1 := Nat.succ.inj h0
  obtain ⟨b2, l2, rfl⟩ := List.exists_cons_of_length_eq_add_one h1
  have h2 := Nat.succ.inj h1
  obtain ⟨b3, l3, rfl⟩ := List.exists_cons_of_length_eq_add_one h2
  have h3 := Nat.succ.inj h2
  obtain ⟨b4, l4, rfl⟩ := List.exists_cons_of_length_eq_add_one h3
  have h4 := Nat.succ.inj h3
  obtain ⟨b5, l5, rfl⟩ := List.exists_cons_of_length_eq_add_one h4
  have h5 := Nat.succ.inj h4
  obtain ⟨b6, l6, rfl⟩ := List.exists_cons_of_length_eq_add_one h5
  have h6 := Nat.succ.inj h5
  obtain ⟨b7, l7, rfl⟩ := List.exists_cons_of_length_eq_add_one h6
  have h7 := Nat.succ.inj h6
  obtain ⟨b8, l8, rfl⟩ := List.exists_cons_of_length_eq_add_one h7
  have h8 := Nat.succ.inj h7
  obtain ⟨b9, l9, rfl⟩ := List.exists_cons_of_length_eq_add_one h8
  have h9 := Nat.succ.inj h8
  obtain ⟨b10, l10, rfl⟩ := List.exists_cons_of_length_eq_add_one h9
  have h10 := Nat.succ.inj h9
  obtain ⟨b11, l11, rfl⟩ := List.exists_cons_of_length_eq_add_one h10
  have h11 := Nat.succ.inj h10
  obtain ⟨b12, l12, rfl⟩ := List.exists_cons_of_length_eq_add_one h11
  have h12 := Nat.succ.inj h11
  obtain ⟨b13, l13, rfl⟩ := List.exists_cons_of_length_eq_add_one h12
  have h13 := Nat.succ.inj h12
  obtain ⟨b14, l14, rfl⟩ := List.exists_cons_of_length_eq_add_one h13
  have h14 := Nat.succ.inj h13
  obtain ⟨b15, l15, rfl⟩ := List.exists_cons_of_length_eq_add_one h14
  have h15 := Nat.succ.inj h14
  obtain rfl := List.length_eq_zero_iff.1 h15
  exact ⟨b0.toNat, b1.toNat, b2.toNat, b3.toNat, b4.toNat, b5.toNat, b6.toNat, b7.toNat, b8.toNat, b9.toNat, b10.toNat, b11.toNat, b12.toNat, b13.toNat, b14.toNat, b15.toNat, rfl, rfl⟩
theorem AX {b o : Nat} {K : ah -> Prop} (h : K ⟨some ⟨b, o, none⟩, 16, 16⟩) : oG ⟨b, o, none⟩ 16 1 0 (16 : Int) K := by
  refine ⟨by omega, by omega, by omega, ?_⟩
  have e : (if 16 = (0 : Int).toNat then (⟨b, o, none⟩ : Addr) else (⟨b, o, none⟩ : Addr).add ((0 : Int).toNat * 1)) = ⟨b, o, none⟩ := by
    rw [if_neg (by decide)]; rfl
  rw [e]
  exact h
theorem Gn {w : World} {b o : Nat} {L A C : List Value} {l : List UInt8} (hr : Row w b L) (hL : L = A ++ (bytesV l ++ C)) (ho : A.length = o) {n : Nat} (hn : n = l.length) : mF w ⟨some ⟨b, o, none⟩, n, n⟩ l := by
  subst hn
  refine ⟨rfl, ⟨by rw [b_], fun j hj => ?_⟩, Nat.le_refl _⟩
  rw [iC, hr.cell, hL, <- ho, List.getElem?_append_right (by omega), Nat.add_sub_cancel_left, List.getElem?_append_left hj]
theorem Hf {w : World} {s : ah} {l : List UInt8} (h : mF w s l) {n : Nat} (hn : n <= l.length) : oQ w s.a (n * 1) (bytesV (l.take n)) := by
  cases ha : s.a with
  | none =>
    have := h.empty ha
    subst this
    simp only [List.length_nil] at hn
    obtain rfl : n = 0 := by omega
    rfl
  | some a =>
    have hc := h.2.1
    rw [ha] at hc
    refine ⟨by rw [b_, List.length_take]; omega, fun j hj => ?_⟩
    rw [b_, List.length_take] at hj
    rw [hc.2 j (by rw [b_]; omega)]
    unfold bytesV
    rw [List.getElem?_map, List.getElem?_map, List.getElem?_take, if_pos (by omega)]
end Go.Proofs
namespace Go.Proofs
open Gp
theorem vN (l : List UInt8) : bytesV l = (bi l).map fun n => Value.int .u8 n := by unfold bytesV bi; rw [List.map_map]; rfl
theorem ML {b o n : Nat} {K : ah -> Prop} (hn : 0 < n) (h : K ⟨some ⟨b, o, none⟩, n, n⟩) : oG ⟨b, o, none⟩ n 1 0 (n : Int) K := by
  refine ⟨by omega, by omega, by omega, ?_⟩
  rw [if_neg (by simp; omega)]
  exact h
end Go.Proofs
end
section
namespace Go.Proofs.PN
open Gp Go.Proofs.CN
set_option maxRecDepth 100000
set_option maxHeartbeats 1000000
abbrev O3 := Int × Int × Int
def UG (x : O3) : Value := .agg ⟨[.int .i64 x.1, .int .i64 x.2.1, .int .i64 x.2.2]⟩
def evU (_ : Unit) : Value := .bool true
theorem eqO (a b : O3) : xQ Tryz.prog 16 80 (UG a) (UG b) = some (decide (a = b)) := by
  have h : xQ Tryz.prog 16 80 (UG a) (UG b) = some ((a.1 == b.1) && ((a.2.1 == b.2.1) && ((a.2.2 == b.2.2) && true))) := by kernel_rfl
  rw [h]
  obtain ⟨a1, a2, a3⟩ := a
  obtain ⟨b1, b2, b3⟩ := b
  have ib : ∀ x y : Int, (x == y) = decide (x = y) := fun _ _ => rfl
  simp [ib, Bool.decide_and]
theorem ZY (a : O3) : iJ Tryz.prog 80 (UG a) = true := by
  unfold iJ
  rw [eqO]; rfl
structure PL (w : World) (p g : Nat) (s : ah) (lo hi : Int) (pl : List Int) (G : List (O3 × Unit)) : Prop where
  hd : Row w p [.int .i64 lo, .int .i64 hi, .slice s.a s.len s.cap, .map (some g)]
  ad : dn 1 eI w s pl
  gv : kE UG evU w g G
  nd : (G.map (·.1)).Nodup
  ln : pl.length <= 16
  pg : p ≠ g
  sp : ¬ ah.at s p
  sg : ¬ ah.at s g
def fp (p g : Nat) (s : ah) (b : Nat) : Prop := b = p ∨ b = g ∨ ah.at s b
variable {w w' : World} {p g : Nat} {s : ah} {lo hi : Int} {pl : List Int} {G : List (O3 × Unit)}
theorem PL.fr {S : Nat -> Prop} (h : PL w p g s lo hi pl G) (hf : aF w w' S) (hs : ∀ b, fp p g s b -> ¬ S b) : PL w' p g s lo hi pl G :=
  ⟨h.hd.fr hf (hs _ (.inl rfl)), h.ad.fr hf fun b hb => hs _ (.inr (.inr hb)), h.gv.fr hf (hs _ (.inr (.inl rfl))), h.nd, h.ln, h.pg, h.sp, h.sg⟩
theorem PL.ext (h : PL w p g s lo hi pl G) (hf : Ext w w') : PL w' p g s lo hi pl G := h.fr (hf fun _ => False) (fun _ _ => by simp)
theorem PL.sl (h : PL w p g s lo hi pl G) : iM 1 eI w s pl := h.ad.sl fJ (by omega)
theorem PL.sln (h : PL w p g s lo hi pl G) : s.len <= 2 ^ 62 := by rw [h.sl.len]; have := h.ln; omega
theorem zh (h : PL w p g s lo hi pl G) : fZ (some ⟨p, 0, none⟩) w fun r w' => r = true ∧ w' = w := by
  apply FM
  simp only [sx, h.hd.cell, Bool.not_false]
  exact ⟨by trivial, by trivial⟩
theorem YA (h : PL w p g s lo hi pl G) (x : Int) : jv (some ⟨p, 0, none⟩) x w fun r w' => r = decide (x ∈ pl) ∧ w' = w := by
  apply Iy
  refine qx (zh h) ?_
  rintro r w' ⟨rfl, hw⟩
  subst hw
  simp only [sx, h.hd.cell]
  refine fP (xK h.sl h.sln x) ?_
  rintro r w' ⟨rfl, hw⟩
  exact ⟨rfl, hw⟩
theorem Yk (n : Int) (w : World) : rO n w fun r w' => r = decide (n = 1 ∨ n = 6 ∨ n = 17) ∧ w' = w := by
  apply N_
  by_cases h1 : n = 1
  · subst h1; simp
  by_cases h6 : n = 6
  · subst h6; simp
  by_cases h17 : n = 17
  · subst h17; simp
  · simp [h1, h6, h17]
theorem Zn (h : PL w p g s lo hi pl G) {x y z : Int} (h1 : x = 1 ∨ x = 6 ∨ x = 17) (h2 : y ∈ pl) (h3 : 0 <= z) (h4 : z < 65536) (hn : (x, y, z) ∉ G.map (·.1)) :
    jP (some ⟨p, 0, none⟩) x y z w fun e w' => e = 0 ∧ PL w' p g s lo hi pl (BG G (x, y, z) ()) ∧ aF w w' (· = g) := by
  apply Hr
  refine aN fun t w1 r1 e1 z1 f1 => ?_
  have hp := h.ext f1
  refine qx (zh hp) ?_
  rintro r w1 ⟨rfl, hw⟩
  subst hw
  simp only [Bool.not_true, cond_false, sx, r1.cell]
  refine Oe (Yk x w1) ?_
  rintro r w1 ⟨rfl, hw⟩
  subst hw
  simp only [h1, decide_true, Bool.not_true, cond_false, sx, r1.cell]
  refine yF (YA hp y) ?_
  rintro r w1 ⟨rfl, hw⟩
  subst hw
  have h3' : ¬ (z < 0) := by omega
  have h4' : ¬ (z >= 65536) := by omega
  simp only [h2, h3', h4', decide_true, decide_false, Bool.not_true, cond_false, sx, r1.cell, hp.hd.drew.cell, r1.drew.cell]
  have fd := Ext.drew w1
  refine zu (k := .bool) ((hp.gv).ext fd) eqO (x, y, z) (ZY _) (fun _ => ?_) (fun b hb => absurd hb (by rw [nK.2 hn]; simp))
  simp only [sx, hp.hd.drew.drew.cell, r1.drew.drew.cell]
  refine H8 (ev := evU) (((hp.gv).ext fd).ext (Ext.drew _)) eqO (x, y, z) () (ZY _) fun w2 g2 f2 z2 => ?_
  have hp2 := (hp.ext fd).ext (Ext.drew _)
  exact ⟨by trivial, ⟨hp2.hd.fr f2 h.pg, hp2.ad.fr f2 (fun b hb e => h.sg (e ▸ hb)), g2, Cj h.nd _ _, h.ln, h.pg, h.sp, h.sg⟩, ((f1.trans fd).trans (Ext.drew _)).fr f2⟩
theorem aae (h : PL w p g s lo hi pl G) {x y z : Int} (hm : (x, y, z) ∈ G.map (·.1)) :
    jS (some ⟨p, 0, none⟩) x y z w fun r w' => r = true ∧ PL w' p g s lo hi pl (qw G (x, y, z)) ∧ aF w w' (· = g) := by
  apply GX
  refine aN fun t w1 r1 e1 z1 f1 => ?_
  have fd := Ext.drew w1
  have hp := (h.ext f1).ext fd
  have hp2 := hp.ext (Ext.drew _)
  refine qx (zh hp) ?_
  rintro r w1 ⟨rfl, hw⟩
  subst hw
  simp only [Bool.not_true, cond_false, sx, hp.hd.cell, r1.drew.cell]
  refine zu (k := .bool) hp.gv eqO (x, y, z) (ZY _) (fun hb => absurd hm (nK.1 hb)) (fun b _ => ?_)
  simp only [evU, Bool.not_true, cond_false, sx, hp2.hd.cell, r1.drew.drew.cell]
  refine Gw (ev := evU) hp2.gv eqO (x, y, z) (ZY _) fun w2 g2 f2 z2 => ?_
  exact ⟨by trivial, ⟨hp2.hd.fr f2 h.pg, hp2.ad.fr f2 (fun b hb e => h.sg (e ▸ hb)), g2, h.nd.sublist ((F9 G _).map _), h.ln, h.pg, h.sp, h.sg⟩, ((f1.trans fd).trans (Ext.drew _)).fr f2⟩
theorem LP {s : ah} {lo hi : Int} {pl : List Int} (hs : iM 1 eI w s pl) (h0 : 1 <= pl.length) (h16 : pl.length <= 16) (hn : pl.Nodup) (hh : ∀ a ∈ pl, iG a) (h1 : 1 <= lo) (h2 : lo <= hi) (h3 : hi < 65536) :
    wC s lo hi w fun r e w' => e = 0 ∧ Ext w w' ∧ ∃ p g s', r = some ⟨p, 0, none⟩ ∧ PL w' p g s' lo hi pl [] ∧ ∀ b, fp p g s' b -> w.heap.size <= b := by
  apply Si
  have hl : s.len = pl.length := hs.len
  intro J4
  have a1 : ¬ ((s.len : Int) < 1) := by omega
  have a2 : ¬ ((s.len : Int) > 16) := by omega
  have a3 : ¬ (lo < 1) := by omega
  have a4 : ¬ (hi < lo) := by omega
  have a5 : ¬ (hi >= 65536) := by omega
  simp -zeta only [a1, a2, a3, a4, a5, decide_false, cond_false]
  simp only [J4, cond_false]
  refine aG (fun st W => ∃ i : Nat, i <= pl.length ∧ st.1 = (i : Int) ∧ Ext w W) (fun st _ => pl.length - st.1.toNat) ⟨0, by omega, rfl, Ext.refl _⟩ ?_
  rintro ⟨i', ⟨⟩⟩ W ⟨i, hi', hi2, hx⟩ next hnext
  simp only at hi2
  subst hi2
  by_cases hlt : i < pl.length
  · have hlt' : ((i : Int) < (s.len : Int)) := by omega
    simp only [hlt', decide_true, cond_true]
    have hmem : pl[i] ∈ pl := List.getElem_mem hlt
    refine SN.PX (hs.ext hx) (List.getElem?_eq_getElem hlt) fun a c0 => ?_
    simp only [VR, c0, au, aC]
    refine rJ (vw _ W) ?_
    rintro _ w1 ⟨rfl, f1⟩
    simp only [hh _ hmem, decide_true, Bool.not_true, cond_false]
    refine ZO fJ (hs.ext (hx.trans f1)) (by omega) (by omega) (by omega) fun s1 hs1 => ?_
    have hl1 : s1.len <= 2 ^ 62 := by rw [hs1.len]; simp; omega
    refine fP (xK hs1 hl1 _) ?_
    rintro _ w2 ⟨rfl, hw⟩
    subst hw
    have hno : pl[i] ∉ (pl.take (i : Int).toNat).drop (0 : Int).toNat := by
      simp only [Int.toNat_natCast, Int.toNat_zero, List.drop_zero]
      exact Gp.Cfg.jL.1 hn i _ (List.getElem?_eq_getElem hlt)
    simp only [hno, decide_false, cond_false]
    rw [wrap_i64 (by omega) (by omega)]
    exact hnext _ _ ⟨i + 1, by omega, by simp, hx.trans f1⟩ (by simp only; omega)
  · have hlt' : ¬ ((i : Int) < (s.len : Int)) := by omega
    simp only [hlt', decide_false, cond_false]
    refine qO (SN.OI (hs.ext hx) (by omega)) ?_
    rintro s' w1 ⟨f1, hb, hnew⟩
    refine SN.Af (enc := UG) (ev := evU) fun w2 hm z2 f2 => ?_
    refine aN fun p w3 r3 e3 z3 f3 => ?_
    have hlt1 : ∀ b, ah.at s' b -> b < w1.heap.size := fun b hb' => hb.lt hb'
    refine ⟨by trivial, ((hx.trans f1).trans f2).trans f3, p, w1.heap.size, s', rfl, ⟨r3, (hb.ext f2).ext f3, hm.ext f3, by simp, h16, by omega, fun h => by have := hlt1 _ h; omega, fun h => by have := hlt1 _ h; omega⟩, ?_⟩
    have hz := (hx.trans f1).size
    have hz1 := hx.size
    rintro b (rfl | rfl | hb')
    · omega
    · omega
    · have := hnew b hb'; omega
end Go.Proofs.PN
end
section
namespace Go.Proofs.EN
open Gp Go.Proofs
open Gp.Bind (Bnd Slots live GoodB freeN getS In64)
set_option maxRecDepth 100000
set_option maxHeartbeats 1000000
structure EA where
  x : Nat
  p : Nat
  g : Nat
  ps : ah
  qb : Nat
  qs : Nat
  B : Qx
  T : SN.Qx
  d : Nat
  m : Nat
  ss : List ah
def own (a : EA) : Nat -> Nat -> Prop
  | 0, b => b = a.x
  | 1, b => PN.fp a.p a.g a.ps b
  | 2, b => b = a.qb ∨ b = a.qs
  | 3, b => fp a.B b
  | 4, b => SN.fp a.T b
  | 5, b => WN.jl a.d a.m a.ss b
  | _, _ => False
structure Cf where
  C : List Value
  sw : ah
  pl : List Int
  lo : Int
  hi : Int
  q : Int
  nb : Int
  ns : Int
structure ace (c : Cf) : Prop where
  len : c.C.length = 36
  c16 : c.C[16]? = some (.slice c.sw.a c.sw.len c.sw.cap)
  c20 : c.C[20]? = some (.int .i64 c.q)
  c21 : c.C[21]? = some (.int .i64 c.nb)
  c22 : c.C[22]? = some (.int .i64 c.ns)
  sw : c.sw.len <= 64
  b1 : 1 <= c.nb ∧ c.nb <= 4096
  q1 : 1 <= c.q ∧ c.q <= 4096
  s1 : 1 <= c.ns ∧ c.ns <= 4096
  hp : ∀ x ∈ c.pl, CN.iG x
structure ES where
  now : Nat
  S : Slots
  Mi : ByteArray -> Option Int
  Mo : ByteArray -> Option Int
  Q : List Int
  G : List (PN.O3 × Unit)
  SS : Gp.Ses.Slots
  M : ByteArray -> Option Int
  l : WN.PL
  wn : Nat
  tn : Int
  F : Gp.Wh.Fs
structure qA (w : World) (a : EA) (c : Cf) (e : ES) : Prop where
  cf : ace c
  hd : Row w a.x ([.pointer (some ⟨a.p, 0, none⟩), .pointer (some ⟨a.qb, 0, none⟩), .pointer (some ⟨a.B.d, 0, none⟩), .pointer (some ⟨a.T.d, 0, none⟩), .pointer (some ⟨a.d, 0, none⟩)] ++ c.C ++ [.int .i64 (e.now : Int)])
  pl : PN.PL w a.p a.g a.ps c.lo c.hi c.pl e.G
  qr : QN.QR w a.qb a.qs e.Q c.q
  qo : QN.XH e.Q c.q
  db : DB w a.B c.nb.toNat e.S e.Mi e.Mo
  se : SN.TA w a.T c.ns.toNat e.SS e.M
  wh : WN.WS w a.d a.m a.ss e.l e.wn e.tn c.ns e.F
  ap : ∀ k k' b, own a k b -> own a k' b -> k = k'
  lt : ∀ k b, own a k b -> b < w.heap.size
variable {w w' : World} {a : EA} {c : Cf} {e : ES}
theorem qA.fr {S : Nat -> Prop} (h : qA w a c e) (hf : aF w w' S) (hs : ∀ k b, own a k b -> ¬ S b) : qA w' a c e :=
  ⟨h.cf, h.hd.fr hf (hs 0 _ rfl), h.pl.fr hf (hs 1), h.qr.fr hf (hs 2 _ (.inl rfl)) (hs 2 _ (.inr rfl)), h.qo, h.db.fr hf (hs 3), h.se.fr hf (hs 4), h.wh.fr hf (hs 5), h.ap,
    fun k b hb => Nat.lt_of_lt_of_le (h.lt k b hb) hf.size⟩
theorem qA.ext (h : qA w a c e) (hf : Ext w w') : qA w' a c e := h.fr (hf fun _ => False) (fun _ _ _ => by simp)
theorem qA.c0 (h : qA w a c e) : w.cell? ⟨a.x, 0, none⟩ = some (.pointer (some ⟨a.p, 0, none⟩)) := by rw [h.hd.cell]; rfl
theorem qA.c1 (h : qA w a c e) : w.cell? ⟨a.x, 1, none⟩ = some (.pointer (some ⟨a.qb, 0, none⟩)) := by rw [h.hd.cell]; rfl
theorem qA.c2 (h : qA w a c e) : w.cell? ⟨a.x, 2, none⟩ = some (.pointer (some ⟨a.B.d, 0, none⟩)) := by rw [h.hd.cell]; rfl
theorem qA.c3 (h : qA w a c e) : w.cell? ⟨a.x, 3, none⟩ = some (.pointer (some ⟨a.T.d, 0, none⟩)) := by rw [h.hd.cell]; rfl
theorem qA.c4 (h : qA w a c e) : w.cell? ⟨a.x, 4, none⟩ = some (.pointer (some ⟨a.d, 0, none⟩)) := by rw [h.hd.cell]; rfl
theorem qA.cC (h : qA w a c e) {j : Nat} (hj : j < 36) : w.cell? ⟨a.x, 5 + j, none⟩ = c.C[j]? := by
  rw [h.hd.cell, List.append_assoc, List.getElem?_append_right (by simp)]
  rw [List.getElem?_append_left (by have := h.cf.len; simp; omega)]
  congr 1; simp
theorem qA.c21 (h : qA w a c e) : w.cell? ⟨a.x, 21, none⟩ = some (.slice c.sw.a c.sw.len c.sw.cap) := (h.cC (j := 16) (by omega)).trans h.cf.c16
theorem qA.c25 (h : qA w a c e) : w.cell? ⟨a.x, 25, none⟩ = some (.int .i64 c.q) := (h.cC (j := 20) (by omega)).trans h.cf.c20
theorem qA.c26 (h : qA w a c e) : w.cell? ⟨a.x, 26, none⟩ = some (.int .i64 c.nb) := (h.cC (j := 21) (by omega)).trans h.cf.c21
theorem qA.c41 (h : qA w a c e) : w.cell? ⟨a.x, 41, none⟩ = some (.int .i64 (e.now : Int)) := by
  rw [h.hd.cell, List.append_assoc, List.getElem?_append_right (by simp), List.getElem?_append_right (by have := h.cf.len; simp; omega)]
  have : 41 - [Value.pointer (some ⟨a.p, 0, none⟩), .pointer (some ⟨a.qb, 0, none⟩), .pointer (some ⟨a.B.d, 0, none⟩), .pointer (some ⟨a.T.d, 0, none⟩), .pointer (some ⟨a.d, 0, none⟩)].length - c.C.length = 0 := by rw [h.cf.len]; rfl
  rw [this]; rfl
theorem Dk (h : qA w a c e) : dJ (some ⟨a.x, 0, none⟩) w fun r w' => r = true ∧ w' = w := by
  apply Cm
  simp only [sx, h.c0, Bool.not_false]
  exact ⟨by trivial, by trivial⟩
def Xo (c : Cf) (i : Int) : Prop := 0 <= i ∧ i < (c.sw.len : Int)
instance (c : Cf) (i : Int) : Decidable (Xo c i) := inferInstanceAs (Decidable (_ ∧ _))
theorem R_ (h : qA w a c e) (i : Int) : fQ (some ⟨a.x, 0, none⟩) i w fun r w' => r = decide (Xo c i) ∧ w' = w := by
  apply yM
  unfold Xo
  by_cases h0 : i >= 0
  · have h0' : 0 <= i := h0
    simp only [h0, h0', decide_true, sx, h.c21, true_and]
  · have h0' : ¬ 0 <= i := h0
    simp only [h0, h0', decide_false, cond_false, false_and, and_self]
theorem VG (n : Int) (w : World) : qM n w fun r w' => r = decide (0 <= n ∧ n <= 65535) ∧ w' = w := by
  apply Pe
  by_cases h0 : n >= 0
  · have h0' : 0 <= n := h0
    simp only [h0, h0', decide_true, cond_true, true_and]
  · have h0' : ¬ 0 <= n := h0
    simp only [h0, h0', decide_false, cond_false, false_and, and_self]
theorem Qh (h : qA w a c e) : iV (some ⟨a.x, 0, none⟩) w fun r w' => r = decide (((live 0 e.S).length : Int) >= c.nb) ∧ Ext w w' := by
  apply Eo
  have hd := h.ext (Ext.drew w)
  simp only [sx, hd.c2, hd.c26]
  refine MG (aau hd.db) ?_
  rintro n w1 ⟨rfl, hw⟩
  subst hw
  exact ⟨hd.c26, rfl, Ext.drew w⟩
def NP (c : Cf) (b : Bnd) : Prop :=
  (b.pr = 1 ∨ b.pr = 6 ∨ b.pr = 17) ∧ CN.iG b.ad ∧ b.oad ∈ c.pl ∧ (0 <= b.po ∧ b.po <= 65535) ∧ (0 <= b.opo ∧ b.opo <= 65535) ∧ b.pr = b.opr ∧ Xo c b.sw
instance (c : Cf) (b : Bnd) : Decidable (NP c b) := inferInstanceAs (Decidable (_ ∧ _))
theorem abq (h : qA w a c e) (b : Bnd) : jE (some ⟨a.x, 0, none⟩) b.sw b.pr b.ad b.po b.opr b.oad b.opo w fun r w' => r = decide (NP c b) ∧ Ext w w' := by
  apply Fe
  refine aN fun t w1 r1 e1 z1 f1 => ?_
  have h1 := h.ext f1
  simp -zeta only [sx, r1.cell]
  intro J6
  have key : J6 (decide (b.pr = 1 ∨ b.pr = 6 ∨ b.pr = 17)) := by
    by_cases hp : b.pr = 1 ∨ b.pr = 6 ∨ b.pr = 17
    rotate_left
    · simp only [J6, hp, decide_false, cond_false]
      exact ⟨(decide_eq_false fun hm => hp hm.1).symm, f1⟩
    simp only [J6, hp, decide_true, cond_true, sx, r1.drew.cell]
    refine rJ (CN.vw _ _) ?_
    rintro r w2 ⟨rfl, f2⟩
    have x2 := (Ext.drew w1).trans f2
    have h2 := h1.ext x2
    have r2 := r1.ext x2
    by_cases c1 : CN.iG b.ad
    rotate_left
    · simp only [c1, decide_false, cond_false]
      exact ⟨(decide_eq_false fun hm => c1 hm.2.1).symm, f1.trans x2⟩
    simp only [c1, decide_true, cond_true, sx, h2.c0, r2.cell]
    refine yF (PN.YA h2.pl _) ?_
    rintro r w2 ⟨rfl, hw⟩
    subst hw
    by_cases c2 : b.oad ∈ c.pl
    rotate_left
    · simp only [c2, decide_false, cond_false]
      exact ⟨(decide_eq_false fun hm => c2 hm.2.2.1).symm, f1.trans x2⟩
    simp only [c2, decide_true, cond_true, sx, r2.cell]
    refine Ho (VG _ _) ?_
    rintro r w2 ⟨rfl, hw⟩
    subst hw
    by_cases c3 : 0 <= b.po ∧ b.po <= 65535
    rotate_left
    · simp only [c3, decide_false, cond_false]
      exact ⟨(decide_eq_false fun hm => c3 hm.2.2.2.1).symm, f1.trans x2⟩
    simp only [c3, and_self, decide_true, cond_true, sx, r2.cell]
    refine Ho (VG _ _) ?_
    rintro r w2 ⟨rfl, hw⟩
    subst hw
    by_cases c4 : 0 <= b.opo ∧ b.opo <= 65535
    rotate_left
    · simp only [c4, decide_false, cond_false]
      exact ⟨(decide_eq_false fun hm => c4 hm.2.2.2.2.1).symm, f1.trans x2⟩
    simp only [c4, and_self, decide_true, cond_true, sx, r2.cell]
    by_cases c5 : b.pr = b.opr
    rotate_left
    · have c5' : (b.pr == b.opr) = false := by simpa using c5
      simp only [c5', cond_false]
      exact ⟨(decide_eq_false fun hm => c5 hm.2.2.2.2.2.1).symm, f1.trans x2⟩
    have c5' : (b.pr == b.opr) = true := by simpa using c5
    simp only [c5', cond_true]
    refine zf (R_ h2 _) ?_
    rintro r w2 ⟨rfl, hw⟩
    subst hw
    refine ⟨?_, f1.trans x2⟩
    simp only [decide_eq_decide]
    exact ⟨fun hs => ⟨hp, c1, c2, c3, c4, c5, hs⟩, fun hm => hm.2.2.2.2.2.2⟩
  by_cases p1 : b.pr = 1
  · have p1' : (b.pr == 1) = true := by simpa using p1
    simp -zeta only [p1', cond_true]
    have q : decide (b.pr = 1 ∨ b.pr = 6 ∨ b.pr = 17) = true := by simp [p1]
    rw [q] at key; exact key
  have p1' : (b.pr == 1) = false := by simpa using p1
  by_cases p6 : b.pr = 6
  · have p6' : (b.pr == 6) = true := by simpa using p6
    simp -zeta only [p1', p6', cond_true, cond_false]
    have q : decide (b.pr = 1 ∨ b.pr = 6 ∨ b.pr = 17) = true := by simp [p6]
    rw [q] at key; exact key
  have p6' : (b.pr == 6) = false := by simpa using p6
  simp -zeta only [p1', p6', cond_false]
  have q : decide (b.pr = 1 ∨ b.pr = 6 ∨ b.pr = 17) = (b.pr == 17) := by
    have : (b.pr == 17) = decide (b.pr = 17) := rfl
    rw [this]; simp [p1, p6]
  rw [q] at key; exact key
end Go.Proofs.EN
end
section
namespace Go.Proofs.EN
open Gp Go.Proofs
open Gp.Bind (Bnd Slots live GoodB freeN getS In64)
set_option maxRecDepth 100000
set_option maxHeartbeats 1000000
theorem QT {o1 o2 : Nat -> Nat -> Prop} {j n : Nat} (ap : ∀ k k' b, o1 k b -> o1 k' b -> k = k') (lt : ∀ k b, o1 k b -> b < n) (same : ∀ k b, k ≠ j -> o2 k b -> o1 k b) (new : ∀ b, o2 j b -> o1 j b ∨ n <= b) :
    ∀ k k' b, o2 k b -> o2 k' b -> k = k' := by
  intro k k' b h h'
  by_cases hk : k = j <;> by_cases hk' : k' = j
  · omega
  · subst hk
    have g' := same k' b hk' h'
    rcases new b h with g | g
    · exact ap _ _ b g g'
    · have := lt _ b g'; omega
  · subst hk'
    have g := same k b hk h
    rcases new b h' with g' | g'
    · exact ap _ _ b g g'
    · have := lt _ b g; omega
  · exact ap _ _ b (same k b hk h) (same k' b hk' h')
variable {w w' : World} {a : EA} {c : Cf} {e : ES}
theorem qA.off (h : qA w a c e) {j k b : Nat} (hk : own a k b) (hn : k ≠ j) : ¬ own a j b := fun hj => hn (h.ap k j b hk hj)
theorem qA.setB (h : qA w a c e) {A : Qx} {S : Slots} {Mi Mo : ByteArray -> Option Int} (hf : aF w w' (own a 3)) (hdb : DB w' A c.nb.toNat S Mi Mo) (hd : A.d = a.B.d) (hfp : ∀ x, fp A x -> fp a.B x ∨ w.heap.size <= x) (hlt : ∀ x, fp A x -> x < w'.heap.size) :
    qA w' { a with B := A } c { e with S := S, Mi := Mi, Mo := Mo } := by
  have same : ∀ k b, k ≠ 3 -> own { a with B := A } k b -> own a k b := by
    intro k b hk ho
    match k, ho with
    | 0, ho => exact ho
    | 1, ho => exact ho
    | 2, ho => exact ho
    | 3, _ => exact absurd rfl hk
    | 4, ho => exact ho
    | 5, ho => exact ho
    | (n + 6), ho => exact ho
  have o : ∀ k b, own a k b -> k ≠ 3 -> ¬ own a 3 b := fun k b hk hn => h.off hk hn
  refine ⟨h.cf, ?_, h.pl.fr hf (fun b hb => o 1 b hb (by decide)), h.qr.fr hf (o 2 _ (.inl rfl) (by decide)) (o 2 _ (.inr rfl) (by decide)), h.qo, hdb, h.se.fr hf (fun b hb => o 4 b hb (by decide)), h.wh.fr hf (fun b hb => o 5 b hb (by decide)), QT (j := 3) h.ap h.lt same (fun b hb => hfp b hb), ?_⟩
  · have := h.hd.fr hf (o 0 _ rfl (by decide))
    simp only [hd]; exact this
  · intro k b hb
    by_cases hk : k = 3
    · subst hk; exact hlt b hb
    · exact Nat.lt_of_lt_of_le (h.lt k b (same k b hk hb)) hf.size
theorem qA.abJ (h : qA w a c e) {G : List (PN.O3 × Unit)} (hf : aF w w' (· = a.g)) (hp : PN.PL w' a.p a.g a.ps c.lo c.hi c.pl G) : qA w' a c { e with G := G } := by
  have o : ∀ k b, own a k b -> k ≠ 1 -> ¬ b = a.g := fun k b hk hn he => h.off hk hn (he ▸ .inr (.inl rfl))
  exact ⟨h.cf, h.hd.fr hf (o 0 _ rfl (by decide)), hp, h.qr.fr hf (o 2 _ (.inl rfl) (by decide)) (o 2 _ (.inr rfl) (by decide)), h.qo, h.db.fr hf (fun b hb => o 3 b hb (by decide)), h.se.fr hf (fun b hb => o 4 b hb (by decide)), h.wh.fr hf (fun b hb => o 5 b hb (by decide)), h.ap,
    fun k b hb => Nat.lt_of_lt_of_le (h.lt k b hb) hf.size⟩
theorem qA.abB (h : qA w a c e) {Q : List Int} (hf : aF w w' (· = a.qs)) (hq : QN.QR w' a.qb a.qs Q c.q) (ho : QN.XH Q c.q) : qA w' a c { e with Q := Q } := by
  have o : ∀ k b, own a k b -> k ≠ 2 -> ¬ b = a.qs := fun k b hk hn he => h.off hk hn (he ▸ .inr rfl)
  exact ⟨h.cf, h.hd.fr hf (o 0 _ rfl (by decide)), h.pl.fr hf (fun b hb => o 1 b hb (by decide)), hq, ho, h.db.fr hf (fun b hb => o 3 b hb (by decide)), h.se.fr hf (fun b hb => o 4 b hb (by decide)), h.wh.fr hf (fun b hb => o 5 b hb (by decide)), h.ap,
    fun k b hb => Nat.lt_of_lt_of_le (h.lt k b hb) hf.size⟩
theorem qA.abE (h : qA w a c e) {n : Nat} (hf : aF w w' (· = a.x)) (hd : Row w' a.x ([.pointer (some ⟨a.p, 0, none⟩), .pointer (some ⟨a.qb, 0, none⟩), .pointer (some ⟨a.B.d, 0, none⟩), .pointer (some ⟨a.T.d, 0, none⟩), .pointer (some ⟨a.d, 0, none⟩)] ++ c.C ++ [.int .i64 (n : Int)])) : qA w' a c { e with now := n } := by
  have o : ∀ k b, own a k b -> k ≠ 0 -> ¬ b = a.x := fun k b hk hn he => h.off hk hn he
  exact ⟨h.cf, hd, h.pl.fr hf (fun b hb => o 1 b hb (by decide)), h.qr.fr hf (o 2 _ (.inl rfl) (by decide)) (o 2 _ (.inr rfl) (by decide)), h.qo, h.db.fr hf (fun b hb => o 3 b hb (by decide)), h.se.fr hf (fun b hb => o 4 b hb (by decide)), h.wh.fr hf (fun b hb => o 5 b hb (by decide)), h.ap,
    fun k b hb => Nat.lt_of_lt_of_le (h.lt k b hb) hf.size⟩
theorem qA.setW (h : qA w a c e) {ss : List ah} {l : WN.PL} {wn : Nat} {tn : Int} {F : Gp.Wh.Fs} (hf : aF w w' (own a 5)) (hw : WN.WS w' a.d a.m ss l wn tn c.ns F) (hfp : ∀ x, WN.jl a.d a.m ss x -> WN.jl a.d a.m a.ss x ∨ w.heap.size <= x) :
    qA w' { a with ss := ss } c { e with l := l, wn := wn, tn := tn, F := F } := by
  have same : ∀ k b, k ≠ 5 -> own { a with ss := ss } k b -> own a k b := by
    intro k b hk ho
    match k, ho with
    | 0, ho => exact ho
    | 1, ho => exact ho
    | 2, ho => exact ho
    | 3, ho => exact ho
    | 4, ho => exact ho
    | 5, _ => exact absurd rfl hk
    | (n + 6), ho => exact ho
  have o : ∀ k b, own a k b -> k ≠ 5 -> ¬ own a 5 b := fun k b hk hn => h.off hk hn
  refine ⟨h.cf, h.hd.fr hf (o 0 _ rfl (by decide)), h.pl.fr hf (fun b hb => o 1 b hb (by decide)), h.qr.fr hf (o 2 _ (.inl rfl) (by decide)) (o 2 _ (.inr rfl) (by decide)), h.qo, h.db.fr hf (fun b hb => o 3 b hb (by decide)), h.se.fr hf (fun b hb => o 4 b hb (by decide)), hw, QT (j := 5) h.ap h.lt same (fun b hb => hfp b hb), ?_⟩
  intro k b hb
  by_cases hk : k = 5
  · subst hk; exact hw.wm.lt hb
  · exact Nat.lt_of_lt_of_le (h.lt k b (same k b hk hb)) hf.size
def DW (a : EA) (b : Nat) : Prop := ∃ k, own a k b
def QS (S : Slots) (i : Int) : Nat := ((live 0 S).filter fun x => x.2.sw == i).length
structure Inv (c : Cf) (e : ES) : Prop where
  ql : e.Q.length = c.sw.len
  cn : ∀ i, Xo c i -> QN.at_ e.Q i = (QS e.S i : Int)
  gv : ∀ o : PN.O3, o ∈ e.G.map (·.1) ↔ ∃ (j : Nat) (b : Bnd), e.S[j]? = some (some b) ∧ (b.opr, b.oad, b.opo) = o
  mp : ∀ (j : Nat) (b : Bnd), e.S[j]? = some (some b) -> NP c b
end Go.Proofs.EN
end
section
namespace Go.Proofs.EN
open Gp Go.Proofs
open Gp.Bind (Bnd Slots live GoodB freeN getS In64)
set_option maxRecDepth 100000
set_option maxHeartbeats 1000000
theorem ZW {S : Slots} {i : Nat} {b : Bnd} (h : freeN S = some i) (k : Int) : QS (S.set i (some b)) k = QS S k + if b.sw = k then 1 else 0 := by
  obtain ⟨_, _, _, _, _, _, h7⟩ := Gp.Bind.qE 0 h
  have e : (live 0 S).filter (fun x => x.2.sw == k) = ((live 0 S).take i).filter (fun x => x.2.sw == k) ++ ((live 0 S).drop i).filter (fun x => x.2.sw == k) := by
    rw [<- List.filter_append, List.take_append_drop]
  unfold QS
  rw [h7 b, e, List.filter_append, List.length_append, List.length_append, List.filter_cons]
  by_cases hb : b.sw = k
  · subst hb
    simp only [beq_self_eq_true, if_true, List.length_cons]; omega
  · have : (b.sw == k) = false := by simpa using hb
    simp [this, hb]
theorem at_set {l : List Int} {i j v : Int} (hi : 0 <= i) (hl : i < (l.length : Int)) (hj : 0 <= j) : QN.at_ (l.set i.toNat v) j = if i = j then v else QN.at_ l j := by
  unfold QN.at_
  rw [List.getD_eq_getElem?_getD, List.getD_eq_getElem?_getD, List.getElem?_set]
  by_cases h : i = j
  · subst h
    simp only [if_true]
    rw [if_pos (by omega)]; rfl
  · have : ¬ i.toNat = j.toNat := by omega
    simp [this, h]
variable {c : Cf} {e : ES}
theorem Inv.add (h : Inv c e) {i : Nat} {b : Bnd} (hf : freeN e.S = some i) (hm : NP c b) (Mi Mo : ByteArray -> Option Int) :
    Inv c { e with S := e.S.set i (some b), Mi := Mi, Mo := Mo, Q := e.Q.set b.sw.toNat (QN.at_ e.Q b.sw + 1), G := BG e.G (b.opr, b.oad, b.opo) () } := by
  have hsw := hm.2.2.2.2.2.2
  obtain ⟨s0, s1⟩ := hsw
  obtain ⟨hil, hin, _⟩ := Gp.Bind.qE 0 hf
  have hql := h.ql
  have hg : ∀ (j : Nat) (x : Bnd), (e.S.set i (some b))[j]? = some (some x) ↔ (j = i ∧ x = b) ∨ (j ≠ i ∧ e.S[j]? = some (some x)) := by
    intro j x
    rw [List.getElem?_set]
    by_cases hj : i = j
    · subst hj
      simp [hil, eq_comm]
    · have : j ≠ i := fun h => hj h.symm
      simp [hj, this]
  refine ⟨by simp [hql], fun k hk => ?_, fun o => ?_, fun j x hx => ?_⟩
  · rw [at_set s0 (by omega) hk.1, ZW hf]
    by_cases hb : b.sw = k
    · subst hb
      simp only [if_true]
      rw [h.cn _ ⟨s0, s1⟩]; omega
    · simp only [hb, if_false]
      rw [h.cn _ hk]; omega
  · have hold : o ∈ e.G.map (·.1) ↔ ∃ (j : Nat) (x : Bnd), j ≠ i ∧ e.S[j]? = some (some x) ∧ (x.opr, x.oad, x.opo) = o := by
      rw [h.gv]
      constructor
      · rintro ⟨j, x, hx, ho⟩
        exact ⟨j, x, (fun hj => by rw [hj, hin] at hx; cases hx), hx, ho⟩
      · rintro ⟨j, x, _, hx, ho⟩; exact ⟨j, x, hx, ho⟩
    have hm' : o ∈ (BG e.G (b.opr, b.oad, b.opo) ()).map (·.1) ↔ o ∈ e.G.map (·.1) ∨ (b.opr, b.oad, b.opo) = o := by
      rw [Pj]
      split
      · rename_i hin'
        exact ⟨.inl, fun h => h.elim id fun h => h ▸ hin'⟩
      · rw [List.mem_append, List.mem_singleton, eq_comm (a := o)]
    show o ∈ (BG e.G (b.opr, b.oad, b.opo) ()).map (·.1) ↔ _
    rw [hm', hold]
    constructor
    · rintro (⟨j, x, hj, hx, ho⟩ | ho)
      · exact ⟨j, x, (hg j x).2 (.inr ⟨hj, hx⟩), ho⟩
      · exact ⟨i, b, (hg i b).2 (.inl ⟨rfl, rfl⟩), ho⟩
    · rintro ⟨j, x, hx, ho⟩
      rcases (hg j x).1 hx with ⟨rfl, rfl⟩ | ⟨hj, hx⟩
      · exact .inr ho
      · exact .inl ⟨j, x, hj, hx, ho⟩
  · rcases (hg j x).1 hx with ⟨rfl, rfl⟩ | ⟨_, hx⟩
    · exact hm
    · exact h.mp j x hx
theorem E5 : ∀ {S : Slots} {i k : Nat} {b : Bnd}, S[i]? = some (some b) -> ∃ A B, live k S = A ++ (((k + i : Nat) : Int), b) :: B ∧ live k (S.set i none) = A ++ B
  | none :: r, 0, k, b, h => by simp at h
  | some x :: r, 0, k, b, h => by
    simp at h; subst h
    exact ⟨[], live (k + 1) r, by simp [live], by simp [live]⟩
  | none :: r, i + 1, k, b, h => by
    obtain ⟨A, B, h1, h2⟩ := E5 (S := r) (k := k + 1) (i := i) (by simpa using h)
    refine ⟨A, B, ?_, ?_⟩
    · show live (k + 1) r = _
      rw [h1]; congr 3; push_cast; omega
    · show live (k + 1) (r.set i none) = _
      exact h2
  | some x :: r, i + 1, k, b, h => by
    obtain ⟨A, B, h1, h2⟩ := E5 (S := r) (k := k + 1) (i := i) (by simpa using h)
    refine ⟨((k : Int), x) :: A, B, ?_, ?_⟩
    · show ((k : Int), x) :: live (k + 1) r = _
      rw [h1, List.cons_append]; congr 4; push_cast; omega
    · show ((k : Int), x) :: live (k + 1) (r.set i none) = _
      rw [h2]; rfl
theorem O4 {S : Slots} {i : Nat} {b : Bnd} (h : S[i]? = some (some b)) (k : Int) : QS S k = QS (S.set i none) k + if b.sw = k then 1 else 0 := by
  obtain ⟨A, B, h1, h2⟩ := E5 (k := 0) h
  unfold QS
  rw [h1, h2, List.filter_append, List.filter_append, List.length_append, List.length_append, List.filter_cons]
  by_cases hb : b.sw = k
  · subst hb
    simp only [beq_self_eq_true, if_true, List.length_cons]; omega
  · have : (b.sw == k) = false := by simpa using hb
    simp [this, hb]
theorem Inv.del (h : Inv c e) (hg : GoodB e.S e.Mi e.Mo) {i : Nat} {b : Bnd} (hi : e.S[i]? = some (some b)) (hnd : (e.G.map (·.1)).Nodup)
    (one : ∀ (j : Nat) (x : Bnd), e.S[j]? = some (some x) -> (x.opr, x.oad, x.opo) = (b.opr, b.oad, b.opo) -> j = i) (Mi Mo : ByteArray -> Option Int) :
    Inv c { e with S := e.S.set i none, Mi := Mi, Mo := Mo, Q := e.Q.set b.sw.toNat (QN.at_ e.Q b.sw - 1), G := qw e.G (b.opr, b.oad, b.opo) } := by
  have hm := h.mp i b hi
  obtain ⟨s0, s1⟩ := hm.2.2.2.2.2.2
  have hql := h.ql
  have hgs : ∀ (j : Nat) (x : Bnd), (e.S.set i none)[j]? = some (some x) ↔ j ≠ i ∧ e.S[j]? = some (some x) := by
    intro j x
    rw [List.getElem?_set]
    by_cases hj : i = j
    · subst hj
      simp
    · have : j ≠ i := fun h => hj h.symm
      simp [hj, this]
  have hdel : ∀ o, o ∈ (qw e.G (b.opr, b.oad, b.opo)).map (·.1) ↔ o ≠ (b.opr, b.oad, b.opo) ∧ o ∈ e.G.map (·.1) := by
    intro o
    have := AP hnd (b.opr, b.oad, b.opo) o
    by_cases ho : o = (b.opr, b.oad, b.opo)
    · rw [if_pos ho] at this
      have h2 := nK.1 this
      exact ⟨fun h => absurd h h2, fun h => absurd ho h.1⟩
    · rw [if_neg ho] at this
      constructor
      · intro h2
        refine ⟨ho, ?_⟩
        refine Classical.byContradiction fun hn => ?_
        rw [nK.2 hn] at this
        exact nK.1 this h2
      · rintro ⟨_, h2⟩
        refine Classical.byContradiction fun hn => ?_
        rw [nK.2 hn] at this
        exact nK.1 this.symm h2
  refine ⟨by simp [hql], fun k hk => ?_, fun o => ?_, fun j x hx => h.mp j x ((hgs j x).1 hx).2⟩
  · rw [at_set s0 (by omega) hk.1]
    have hc := O4 hi k
    by_cases hb : b.sw = k
    · subst hb
      simp only [if_true] at hc ⊢
      rw [h.cn _ ⟨s0, s1⟩]; omega
    · simp only [hb, if_false] at hc ⊢
      rw [h.cn _ hk]; omega
  · rw [hdel, h.gv]
    constructor
    · rintro ⟨ho, j, x, hx, hxo⟩
      refine ⟨j, x, (hgs j x).2 ⟨fun hj => ?_, hx⟩, hxo⟩
      subst hj
      rw [hi] at hx
      cases hx
      exact ho hxo.symm
    · rintro ⟨j, x, hx, hxo⟩
      obtain ⟨hj, hx⟩ := (hgs j x).1 hx
      exact ⟨fun ho => hj (one j x hx (hxo.trans ho)), j, x, hx, hxo⟩
end Go.Proofs.EN
end
section
namespace Go.Proofs.EN
open Gp Go.Proofs
open Gp.Bind (Bnd Slots live GoodB freeN getS In64)
set_option maxRecDepth 100000
set_option maxHeartbeats 1000000
theorem NP.ok {c : Cf} {b : Bnd} (h : NP c b) (hc : ace c) : b.ok := by
  obtain ⟨h1, h2, h3, h4, h5, h6, h7, h8⟩ := h
  obtain ⟨h2a, h2b, _⟩ := h2
  obtain ⟨h3a, h3b, _⟩ := hc.hp _ h3
  have hl := hc.sw
  constructor
  · intro n hn
    simp only [Bnd.i, List.mem_cons, List.not_mem_nil, or_false] at hn
    unfold In64
    rcases hn with rfl | rfl | rfl | rfl <;> omega
  · intro n hn
    simp only [Bnd.o, List.mem_cons, List.not_mem_nil, or_false] at hn
    unfold In64
    rcases hn with rfl | rfl | rfl <;> omega
theorem LQ : ∀ {S : Slots} (k : Nat), freeN S = none -> (live k S).length = S.length
  | [], _, _ => rfl
  | none :: r, _, h => by simp [freeN] at h
  | some c :: r, k, h => by
    simp only [freeN, Option.map_eq_none_iff] at h
    simp only [live, List.length_cons, LQ (k + 1) h]
def xX (c : Cf) (e : ES) (b : Bnd) : Int :=
  if ¬ NP c b then 1 else if (e.Mi (Bind.keyS b.i)).isSome || (e.Mo (Bind.keyS b.o)).isSome then 9 else if QN.yC e.Q b.sw >= c.q then 10 else if ((live 0 e.S).length : Int) >= c.nb then 7 else 0
variable {w w' : World} {a : EA} {c : Cf} {e : ES}
theorem map_ok (h : qA w a c e) (hi : Inv c e) (b : Bnd) (hst : b.st = true) :
    iw (some ⟨a.x, 0, none⟩) b.sw b.pr b.ad b.po b.opr b.oad b.opo w fun r w' => r = xX c e b ∧
      ((r ≠ 0 ∧ Ext w w') ∨ (r = 0 ∧ NP c b ∧ aF w w' (DW a) ∧ ∃ A i Mi Mo Q G, freeN e.S = some i ∧ (∀ x, fp A x -> fp a.B x ∨ w.heap.size <= x) ∧
        qA w' { a with B := A } c { e with S := e.S.set i (some b), Mi := Mi, Mo := Mo, Q := Q, G := G } ∧ Inv c { e with S := e.S.set i (some b), Mi := Mi, Mo := Mo, Q := Q, G := G })) := by
  apply FN
  refine aN fun t w1 r1 e1 z1 f1 => ?_
  have h1 := h.ext f1
  refine jD (Dk h1) ?_
  rintro r w1 ⟨rfl, hw⟩
  subst hw
  simp -zeta only [Bool.not_true, cond_false, sx, r1.cell]
  refine FH (abq h1 b) ?_
  rintro r w2 ⟨rfl, f2⟩
  by_cases hm : NP c b
  rotate_left
  · simp only [hm, decide_false, Bool.not_false, cond_true]
    refine ⟨by unfold xX; rw [if_pos hm], .inl ⟨by decide, f1.trans f2⟩⟩
  have bok := hm.ok h.cf
  have x2 := f2.trans (Ext.drew w2)
  have h2 := h1.ext x2
  have r2 := r1.ext x2
  simp -zeta only [hm, decide_true, Bool.not_true, cond_false, sx, h2.c2, r2.cell]
  refine uS (KE h2.db b.sw b.pr b.ad b.po bok.1) ?_
  rintro n1 t1 w3 ⟨rfl, rfl, f3⟩
  have x3 := f3.trans (Ext.drew w3)
  have h3 := h2.ext x3
  have r3 := r2.ext x3
  simp -zeta only [sx, h3.c2, r3.cell]
  refine Ak (SX h3.db b.opr b.oad b.opo bok.2) ?_
  rintro n2 t2 w4 ⟨rfl, rfl, f4⟩
  have x4 := ((f1.trans x2).trans x3).trans f4
  intro J
  have hJ : J ((e.Mi (Bind.keyS b.i)).isSome || (e.Mo (Bind.keyS b.o)).isSome) := by
    cases hd : ((e.Mi (Bind.keyS b.i)).isSome || (e.Mo (Bind.keyS b.o)).isSome)
    rotate_left
    · simp only [J, cond_true]
      exact ⟨by unfold xX; rw [if_neg (not_not_intro hm), if_pos hd], .inl ⟨by decide, x4⟩⟩
    have x5 := f4.trans (Ext.drew w4)
    have h5 := h3.ext x5
    have r5 := r3.ext x5
    simp only [J, cond_false, sx, h5.c1, h5.c25, r5.cell]
    refine BH (QN.Yd h5.qr _) ?_
    rintro n w5 ⟨rfl, hw⟩
    subst hw
    refine ⟨h5.c25, ?_⟩
    by_cases hq : QN.yC e.Q b.sw >= c.q
    · simp only [hq, decide_true, cond_true]
      exact ⟨by unfold xX; rw [if_neg (not_not_intro hm), if_neg (by rw [hd]; decide), if_pos hq], .inl ⟨by decide, x4.trans (Ext.drew w4)⟩⟩
    simp only [hq, decide_false, cond_false]
    refine Ec (Qh h5) ?_
    rintro n w6 ⟨rfl, f6⟩
    have x6 := (x4.trans (Ext.drew w4)).trans f6
    by_cases hfull : ((live 0 e.S).length : Int) >= c.nb
    · simp only [hfull, decide_true, cond_true]
      exact ⟨by unfold xX; rw [if_neg (not_not_intro hm), if_neg (by rw [hd]; decide), if_neg hq, if_pos hfull], .inl ⟨by decide, x6⟩⟩
    have y6 := f6.trans (Ext.drew w6)
    have h6 := h5.ext y6
    have r6 := r5.ext y6
    have xx := x6.trans (Ext.drew w6)
    simp only [hfull, decide_false, cond_false, sx, h6.c1, r6.cell]
    obtain ⟨s0, s1⟩ := hm.2.2.2.2.2.2
    have hin : QN.Q7 e.Q b.sw := ⟨s0, by rw [hi.ql]; exact s1⟩
    have hat : QN.yC e.Q b.sw = QN.at_ e.Q b.sw := by unfold QN.yC; rw [if_pos hin]
    have htk : QN.Gf e.Q c.q b.sw = (0, e.Q.set b.sw.toNat (QN.at_ e.Q b.sw + 1)) := by
      unfold QN.Gf; rw [if_pos hin, if_neg (by rw [<- hat]; exact hq)]
    have ht : t < w.drew.heap.size ∨ w.heap.size <= t := .inr (by omega)
    refine DV (QN.Z9 h6.qr h6.qo _) ?_
    rintro n w7 ⟨rfl, q7, f7⟩
    rw [htk] at q7
    have o7 : QN.XH (e.Q.set b.sw.toNat (QN.at_ e.Q b.sw + 1)) c.q := by
      have := QN.XT h6.qo b.sw
      rw [htk] at this; exact this
    have h7 := (h6.abB f7 q7 o7).ext (Ext.drew w7)
    have r7 := (r6.fr f7 (fun he => by have := h.lt 2 a.qs (.inr rfl); omega)).drew
    simp only [sx, h7.c0, r7.cell]
    have hnG : (b.opr, b.oad, b.opo) ∉ e.G.map (·.1) := by
      intro hc
      obtain ⟨j, x, hx, ho⟩ := (hi.gv _).1 hc
      have : e.Mo (Bind.keyS b.o) = some (j : Int) := (h.db.good.o _ _).2 ⟨j, x, hx, by simp only [Prod.mk.injEq] at ho; unfold Bnd.o; rw [ho.1, ho.2.1, ho.2.2], rfl⟩
      rw [this] at hd
      simp at hd
    have hpr : b.opr = 1 ∨ b.opr = 6 ∨ b.opr = 17 := by rw [<- hm.2.2.2.2.2.1]; exact hm.1
    refine G6 (PN.Zn h7.pl hpr hm.2.2.1 hm.2.2.2.2.1.1 (by have := hm.2.2.2.2.1.2; omega) hnG) ?_
    rintro n w8 ⟨rfl, p8, f8⟩
    have h8 := (h7.abJ f8 p8).ext (Ext.drew w8)
    have r8 := (r7.fr f8 (fun he => by have := h.lt 1 a.g (.inr (.inl rfl)); omega)).drew
    simp only [sx, h8.c2, r8.cell]
    have hadd := aaq h8.db b bok (h8.lt 3)
    rw [hst] at hadd
    refine Lh hadd ?_
    rintro n m w9 ⟨hr, f9, A, S', Mi', Mo', d9, hAd, hfp, hlt9, hS'⟩
    have hfree : ∃ i, freeN e.S = some i := by
      cases hfn : freeN e.S with
      | some i => exact ⟨i, rfl⟩
      | none =>
        have h10 := LQ 0 hfn
        have h11 := h.db.len
        have := h.cf.b1
        omega
    obtain ⟨i, hfi⟩ := hfree
    have hadds : GI e.S e.Mi e.Mo b = ((i : Int), 0) := by
      unfold GI; rw [hd, if_neg (by decide), hfi]
    simp only [hadds] at hr hS'
    simp only [if_true, Int.toNat_natCast] at hS'
    cases hr
    subst hS'
    have h9 := h8.setB f9 d9 hAd (fun x hx => hfp x hx) hlt9
    have m0 : xX c e b = 0 := by
      unfold xX; rw [if_neg (not_not_intro hm), if_neg (by rw [hd]; decide), if_neg hq, if_neg hfull]
    refine ⟨m0.symm, .inr ⟨rfl, by trivial, ?_, A, i, Mi', Mo', _, _, hfi, fun x hx => ?_, h9, hi.add hfi hm Mi' Mo'⟩⟩
    · have g7 : aF w w7 (DW a) := (xx.fr f7).mono fun y hy => ⟨2, .inr hy⟩
      have g8 : aF w w8 (DW a) := (g7.ext (Ext.drew _)).trans f8 fun y _ hy => ⟨1, .inr (.inl hy)⟩
      exact (g8.ext (Ext.drew _)).trans f9 fun y _ hy => ⟨3, hy⟩
    · rcases hfp x hx with hx | hx
      · exact .inl hx
      · refine .inr ?_
        have e7 := f7.size
        have e8 := f8.size
        have ex := xx.size
        have d7 : w7.drew.heap.size = w7.heap.size := rfl
        have d8 : w8.drew.heap.size = w8.heap.size := rfl
        omega
  cases hd1 : (e.Mi (Bind.keyS b.i)).isSome
  · rw [hd1, Bool.false_or] at hJ
    have : (e.Mi (Bind.keyS [b.sw, b.pr, b.ad, b.po])).isSome = false := hd1
    simp -zeta only [this, cond_false]
    exact hJ
  · rw [hd1, Bool.true_or] at hJ
    have : (e.Mi (Bind.keyS [b.sw, b.pr, b.ad, b.po])).isSome = true := hd1
    simp -zeta only [this, cond_true]
    exact hJ
end Go.Proofs.EN
end
section
namespace Go.Proofs.EN
open Gp Go.Proofs
open Gp.Bind (Bnd Slots live GoodB freeN getS In64)
set_option maxRecDepth 100000
set_option maxHeartbeats 1000000
variable {w w' : World} {a : EA} {c : Cf} {e : ES}
theorem aaL (w : World) (d : Nat) (k : Int) : iZ (some ⟨d, 0, none⟩) k w fun v w' => Ext w w' ∧ ∃ f0 f1, v = Value.func (.func uH) #[] #[(Value.pointer (some ⟨f0, 0, none⟩)), (Value.pointer (some ⟨f1, 0, none⟩))] ∧ Row w' f0 [.pointer (some ⟨d, 0, none⟩)] ∧ Row w' f1 [.int .i64 k] := by
  apply Eu
  refine ⟨rfl, ?_⟩
  refine aN fun f0 w1 r1 e1 z1 g1 => ⟨rfl, ?_⟩
  refine aN fun f1 w2 r2 e2 z2 g2 => ?_
  exact ⟨g1.trans g2, f0, f1, rfl, r1.ext g2, r2⟩
theorem Yb (h : qA w a c e) {id : Int} (h0 : SN.Ud e.SS id = []) : iH (some ⟨a.x, 0, none⟩) id w fun w' => Ext w w' := by
  apply BL
  refine ⟨rfl, ?_⟩
  refine aN fun t w1 r1 e1 z1 f1 => ?_
  have h1 := h.ext f1
  simp only [sx, r1.cell, h1.c3]
  refine En (aaL w1 _ _) ?_
  rintro v w2 ⟨f2, g0, g1, rfl, p0, p1⟩
  have h2 := h1.ext f2
  have hla : iL none w2 = w2.heap.size + 1 := rfl
  have hz := (f1.trans f2).size
  have fin : ∀ W, Ext w2 W -> Ext w (W.putObj w2.heap.size (.deferred none)) := fun W hx => (((f1.trans f2).trans hx).fr (aF.gB W w2.heap.size _)).new fun b hb he => by omega
  refine Xz (SN.ZT c.ns.toNat e.SS e.M a.T g0 g1 id) (fun _ W => Ext w2 W) (fun _ _ => False) (by simp) (fun W f _ => f) ?_ ?_ (by intro e W W' h; exact h.elim) (by intro e W h; exact h.elim) ?_ ?_ (by intro W h; exact h.elim) (by intro id W h; exact h.elim)
  · intro i W hx
    exact ⟨p0.ext hx, p1.ext hx, h2.se.ext hx⟩
  · intro i W W' hx hf
    exact (hx.fr hf).new fun b hb he => by omega
  · intro i x W Kb hx
    rw [h0] at hx
    simp [SN.yS] at hx
  · intro W hx hm
    exact ⟨hm rfl, fin W hx⟩
def Zl (e : ES) : Prop := live0 e.SS = [] where live0 := Gp.Ses.live 0
theorem Zl.of {e : ES} (h : Zl e) (id : Int) : SN.Ud e.SS id = [] := by
  unfold SN.Ud
  have : Gp.Ses.live 0 e.SS = [] := h
  rw [this]; rfl
theorem I9 {S : Slots} {Mi Mo : ByteArray -> Option Int} (hg : GoodB S Mi Mo) {i j : Nat} {b x : Bnd} (hi : S[i]? = some (some b)) (hj : S[j]? = some (some x)) (h : (x.opr, x.oad, x.opo) = (b.opr, b.oad, b.opo)) : j = i := by
  have h1 : Mo (Bind.keyS b.o) = some (i : Int) := (hg.o _ _).2 ⟨i, b, hi, rfl, rfl⟩
  have e : x.o = b.o := by simp only [Prod.mk.injEq] at h; unfold Bnd.o; rw [h.1, h.2.1, h.2.2]
  have h2 : Mo (Bind.keyS b.o) = some (j : Int) := (hg.o _ _).2 ⟨j, x, hj, by rw [e], rfl⟩
  rw [h1] at h2
  simp at h2; omega
theorem Vf (h : qA w a c e) (hi : Inv c e) (hs : Zl e) {i : Nat} {b : Bnd} (hb : e.S[i]? = some (some b)) :
    gJ (some ⟨a.x, 0, none⟩) (i : Int) w fun w' => aF w w' (DW a) ∧ ∃ Mi Mo Q G, qA w' a c { e with S := e.S.set i none, Mi := Mi, Mo := Mo, Q := Q, G := G } ∧ Inv c { e with S := e.S.set i none, Mi := Mi, Mo := Mo, Q := Q, G := G } := by
  apply zB
  have hgs : getS e.S (i : Int) = some b := Gp.Bind.yO.2 ⟨by omega, by rw [Int.toNat_natCast]; exact hb⟩
  simp only [sx, h.c2]
  refine BP (VE h.db _) ?_
  rintro a1 a2 a3 a4 a5 a6 a7 a8 r w1 ⟨rfl, hr, f1⟩
  rw [hgs] at hr
  obtain ⟨rfl, rfl, rfl, rfl, rfl, rfl, rfl, rfl⟩ := hr
  simp only [hgs, Option.getD_some, Option.isSome_some]
  refine aN fun t w2 r2 e2 z2 f2 => ?_
  refine aQ r2 (by rfl) (by rfl) fun w3 r3 f3 z3 => ?_
  have x3 : Ext w w3 := (f1.trans f2).new (f3 (· = t) rfl) fun y hy he => by have := f1.size; omega
  have ht : w.heap.size <= t := by have := f1.size; omega
  have h3 := h.ext x3
  simp only [Bool.not_true, cond_false]
  refine Bd (Yb h3 (hs.of _)) ?_
  intro w4 f4
  have h4 := h3.ext f4
  have r4 := r3.ext f4
  have x4 := x3.trans f4
  simp only [sx, h4.c2]
  refine GL (Vq h4.db _ (h4.lt 3)) ?_
  rintro r w5 ⟨_, f5, Mi', Mo', d5⟩
  rw [hgs] at d5
  simp only [Option.isSome_some, if_true, Int.toNat_natCast] at d5
  have h5 := (h4.setB f5 d5 rfl (fun x hx => .inl hx) (fun x hx => Nat.lt_of_lt_of_le (h4.lt 3 x hx) f5.size)).ext (Ext.drew w5)
  have r5 := (r4.fr f5 (fun he => by have := h.lt 3 t he; omega)).drew
  have g5 : aF w w5 (DW a) := (x4.fr f5).mono fun y hy => ⟨3, hy⟩
  have hmG : (b.opr, b.oad, b.opo) ∈ e.G.map (·.1) := (hi.gv _).2 ⟨i, b, hb, rfl⟩
  simp only [sx, h5.c0, r5.cell]
  refine Gl (PN.aae h5.pl hmG) ?_
  rintro r w6 ⟨rfl, p6, f6⟩
  have h6 := (h5.abJ f6 p6).ext (Ext.drew w6)
  have r6 := (r5.fr f6 (fun he => by have := h.lt 1 a.g (.inr (.inl rfl)); have he : t = a.g := he; omega)).drew
  have g6 : aF w w6 (DW a) := (g5.ext (Ext.drew _)).trans f6 fun y _ hy => ⟨1, .inr (.inl hy)⟩
  simp only [sx, h6.c1, r6.cell]
  obtain ⟨s0, s1⟩ := (hi.mp i b hb).2.2.2.2.2.2
  have hin : QN.Q7 e.Q b.sw := ⟨s0, by rw [hi.ql]; exact s1⟩
  have hne : ¬ QN.at_ e.Q b.sw = 0 := by
    rw [hi.cn _ ⟨s0, s1⟩]
    have := O4 hb b.sw
    rw [if_pos rfl] at this
    omega
  have hgv : QN.EG e.Q b.sw = (0, e.Q.set b.sw.toNat (QN.at_ e.Q b.sw - 1)) := by
    unfold QN.EG; rw [if_pos hin, if_neg hne]
  refine Ey (QN.ZQ h6.qr h6.qo _) ?_
  rintro r w7 ⟨rfl, q7, f7⟩
  have o7 := QN.Zf h6.qo b.sw
  rw [show QN.EG ({ e with S := e.S.set i none, Mi := Mi', Mo := Mo', G := qw e.G (b.opr, b.oad, b.opo) } : ES).Q b.sw = _ from hgv] at q7 o7
  refine ⟨(g6.ext (Ext.drew _)).trans f7 fun y _ hy => ⟨2, .inr hy⟩, Mi', Mo', _, _, h6.abB f7 q7 o7, ?_⟩
  exact hi.del h.db.good hb h.pl.nd (fun j x hx ho => I9 h.db.good hb hx ho) Mi' Mo'
end Go.Proofs.EN
end
section
namespace Go.Proofs.EN
open Gp Go.Proofs
open Gp.Bind (Bnd Slots live GoodB freeN getS In64)
set_option maxRecDepth 100000
set_option maxHeartbeats 1000000
variable {w w' : World} {a : EA} {c : Cf} {e : ES}
theorem Yv (h : qA w a c e) (hi : Inv c e) (hs : Zl e) {i : Nat} {b : Bnd} (hb : e.S[i]? = some (some b)) (hst : b.st = true) :
    iI (some ⟨a.x, 0, none⟩) b.sw b.pr b.ad b.po w fun r w' => r = 0 ∧ aF w w' (DW a) ∧ ∃ Mi Mo Q G, qA w' a c { e with S := e.S.set i none, Mi := Mi, Mo := Mo, Q := Q, G := G } ∧ Inv c { e with S := e.S.set i none, Mi := Mi, Mo := Mo, Q := Q, G := G } := by
  apply Bh
  have bok := h.db.good.ok i b hb
  have hgs : getS e.S (i : Int) = some b := Gp.Bind.yO.2 ⟨by omega, by rw [Int.toNat_natCast]; exact hb⟩
  refine aN fun t w1 r1 e1 z1 f1 => ?_
  have h1 := h.ext f1
  refine jD (Dk h1) ?_
  rintro r w1 ⟨rfl, hw⟩
  subst hw
  have h1d := h1.ext (Ext.drew w1)
  simp only [Bool.not_true, cond_false, sx, h1d.c2, r1.drew.cell]
  refine uS (KE h1d.db b.sw b.pr b.ad b.po bok.1) ?_
  rintro n t1 w2 ⟨rfl, rfl, f2⟩
  have hmi : e.Mi (Bind.keyS [b.sw, b.pr, b.ad, b.po]) = some (i : Int) := (h.db.good.i _ _).2 ⟨i, b, hb, rfl, rfl⟩
  have h2 := h1d.ext f2
  have x2 := (f1.trans (Ext.drew w1)).trans f2
  simp only [hmi, Option.isSome_some, Option.getD_some, sx, h2.c2]
  refine BP (VE h2.db _) ?_
  rintro a1 a2 a3 a4 a5 a6 a7 a8 r w3 ⟨_, hr, f3⟩
  rw [hgs] at hr
  obtain ⟨rfl, rfl, rfl, rfl, rfl, rfl, rfl, rfl⟩ := hr
  simp only [Option.getD_some]
  refine aN fun u w4 r4 e4 z4 f4 => ?_
  refine aQ r4 (by rfl) (by rfl) fun w5 r5 f5 z5 => ?_
  have x5 : Ext w w5 := ((x2.trans f3).trans f4).new (f5 (· = u) rfl) fun y hy he => by have := (x2.trans f3).size; omega
  have h5 := h.ext x5
  simp only [Bool.not_true, cond_false, sx, r5.cell, hst]
  refine zO (Vf h5 hi hs hb) ?_
  rintro w6 ⟨f6, Mi, Mo, Q, G, h6, i6⟩
  exact ⟨by trivial, x5.fr f6, Mi, Mo, Q, G, h6, i6⟩
end Go.Proofs.EN
namespace Go.Proofs.WN
open Gp Gp.Wh
set_option maxRecDepth 100000
variable {w w' : World} {d m : Nat} {ss : List ah} {l : PL} {now : Nat} {tn most : Int} {F : Fs}
theorem Ux (h : WS w d m ss l now tn most F) {id : Int} {t : Tm} (hl : d_ l id = some t) :
    fE (some ⟨d, 0, none⟩) id w fun r w' => r = true ∧ aF w w' (jl d m ss) ∧ ∃ ss' F', WS w' d m ss' (qw l id) now tn most F' ∧ ∀ b, jl d m ss' b -> jl d m ss b ∨ w.heap.size <= b := by
  apply rV
  refine gZ (zq h.wm) ?_
  rintro r w1 ⟨rfl, hw⟩
  subst hw
  simp only [Bool.not_true, cond_false, sx, h.wm.Qw]
  refine Dw (enc := JR) (ev := evT) h.wm.mp eqW id (Vb _) (fun hc => by rw [hl] at hc; cases hc) (fun t' ht' => ?_)
  rw [hl] at ht'
  cases ht'
  refine ⟨_, _, _, rfl, ?_⟩
  refine aN fun p w2 r2 e2 z2 f2 => ?_
  refine aQ r2 (by rfl) (by rfl) fun w3 r3 f3 z3 => ?_
  have x3 : Ext w1 w3 := f2.new (f3 (· = p) rfl) fun y hy he => by omega
  have h3 := h.ext x3
  simp only [Bool.not_true, cond_false, sx, r3.cell]
  obtain ⟨hid, ha1, ha2⟩ := h.wi.pl id t hl
  have hnd := h.wm.nd
  refine uV (SH h3.wm h.wi.nw t ha2) ?_
  rintro w4 ⟨f4, n, ss', hn7, hLv, m4, hsub⟩
  simp only [sx, m4.Qw]
  refine m4.ab_ id fun w5 m5 f5 z5 => ?_
  have hP : d_ (qw l id) = yN (d_ l) id none := by
    funext id'
    rw [AP hnd]
    unfold yN
    split <;> rfl
  have hlk : ∀ i u, d_ (qw l id) i = some u -> d_ l i = some u := by
    intro i u hu
    rw [AP hnd] at hu
    split at hu
    · cases hu
    · exact hu
  refine ⟨by trivial, ?_, ss', _, ⟨m5, ?_, ⟨h.mo.1, ?_⟩, fun i u hu => h.tb i u (hlk i u hu), fun i i' u u' hu hu' ht => h.ti i i' u u' (hlk i u hu) (hlk i' u' hu') ht, h.t0⟩, fun b hb => ?_⟩
  · exact (x3.fr f4).trans f5 fun b _ hb => .inr (.inl hb)
  · rw [hP, hid]
    exact h.wi.take hl hLv
  · have := (F9 l id).length_le
    have := h.mo.2
    omega
  · rcases hsub b hb with hb | hb
    · exact .inl hb
    · exact .inr (by have := x3.size; omega)
theorem Ti : ∀ {l : PL} {id : Int}, d_ l id = none -> qw l id = l
  | [], _, _ => rfl
  | x :: l, id, h => by
    unfold d_ at h
    unfold qw
    split at h
    · cases h
    · rename_i hx
      rw [if_neg hx, Ti h]
theorem Rf (h : WS w d m ss l now tn most F) (id : Int) :
    fE (some ⟨d, 0, none⟩) id w fun r w' => r = (d_ l id).isSome ∧ aF w w' (jl d m ss) ∧ ∃ ss' F', WS w' d m ss' (qw l id) now tn most F' ∧ ∀ b, jl d m ss' b -> jl d m ss b ∨ w.heap.size <= b := by
  cases hl : d_ l id with
  | some t => exact rY (Ux h hl) fun r w' ⟨h1, h2, h3⟩ => ⟨h1, h2, h3⟩
  | none =>
  apply rV
  refine gZ (zq h.wm) ?_
  rintro r w1 ⟨rfl, hw⟩
  subst hw
  simp only [Bool.not_true, cond_false, sx, h.wm.Qw]
  refine Dw (enc := JR) (ev := evT) h.wm.mp eqW id (Vb _) (fun _ => ?_) (fun t' ht' => by rw [hl] at ht'; cases ht')
  refine ⟨_, _, _, rfl, ?_⟩
  refine aN fun p w2 r2 e2 z2 f2 => ?_
  refine aQ r2 (by rfl) (by rfl) fun w3 r3 f3 z3 => ?_
  have x3 : Ext w1 w3 := f2.new (f3 (· = p) rfl) fun y hy he => by omega
  simp only [Bool.not_false, cond_true]
  refine ⟨rfl, x3 _, ss, F, ?_, fun b hb => .inl hb⟩
  rw [Ti hl]
  exact h.ext x3
end Go.Proofs.WN
end
section
namespace Gp
open Go
variable {α β : Type} [DecidableEq α] {enc : α -> Value} {ev : β -> Value} {w : World} {r : Nat} {l : List (α × β)} {P : Program} {kt : TypeId}
theorem Nc (h : kE enc ev w r l) (hE : ∀ a b : α, xQ P 16 kt (enc a) (enc b) = some (decide (a = b))) (a : α) (hk : iJ P kt (enc a) = true) (hn : d_ l a = none) (z : Value) (b : β) {K : Value -> Int -> World -> Prop}
    (hK : ∀ n w1, (∀ {K2 : World -> Prop}, (∀ w', kE enc ev w' r (BG l a b) -> aF w w' (· = r) -> w'.heap.size = w.heap.size -> K2 w') -> Td (some r) n (ev b) w1 K2) -> K z n w1) : LY P kt (some r) (enc a) z w K := by
  obtain ⟨es, c, h1, h2, h3, h4⟩ := h
  have hlt := (Array.getElem?_eq_some_iff.1 h1).1
  rcases Dz hE a b es.toList _ 0 h2 with ⟨_, q2, q3⟩ | ⟨j, v, e, q1, _⟩
  rotate_left
  · rw [hn] at q1; cases q1
  refine ⟨hk, r, es, c, rfl, h1, none, q2, ?_⟩
  refine hK _ _ fun {K2} hK2 => ?_
  have hg : (w.putObj r (.map (es.push { key := enc a, val := z, born := c }) (c + 1))).heap[r]? = some (.map (es.push { key := enc a, val := z, born := c }) (c + 1)) := by
    simp [World.putObj, Array.getElem?_setIfInBounds, hlt]
  have hf : (es.push { key := enc a, val := z, born := c }).findIdx? (fun e => (e.born : Int) == (c : Int)) = some es.size := by
    rw [Array.findIdx?_eq_some_iff_getElem]
    refine ⟨by simp, by simp, fun j hj => ?_⟩
    have hj' : j < es.size := hj
    rw [Array.getElem_push_lt hj']
    have := h4 es[j] (by simp)
    simp; omega
  refine ⟨r, _, _, _, rfl, hg, hf, ?_⟩
  have hm : (es.push { key := enc a, val := z, born := c }).modify es.size (fun e => { e with val := ev b }) = es.push { key := enc a, val := ev b, born := c } := by
    apply Array.ext
    · simp
    · intro i hi1 hi2
      simp only [Array.getElem_modify]
      split
      · rename_i he; subst he; simp
      · rename_i he
        have : i < es.size := by simp at hi1; omega
        rw [Array.getElem_push_lt this, Array.getElem_push_lt this]
  rw [hm]
  refine hK2 _ ⟨es.push { key := enc a, val := ev b, born := c }, c + 1, by simp [World.putObj, Array.getElem?_setIfInBounds, hlt], ?_, ?_, ?_⟩ ((aF.gB _ _ _).trans (aF.gB _ _ _) fun _ _ e => e) (by simp [World.putObj])
  · rw [q3]
    simp [h2]
  · rw [Array.toList_push, List.map_append, List.nodup_append]
    refine ⟨h3, by simp, fun x hx y hy e => ?_⟩
    obtain ⟨e', he', rfl⟩ := List.mem_map.1 hx
    have := h4 e' he'
    simp at hy
    omega
  · intro e he
    rw [Array.toList_push] at he
    rcases List.mem_append.1 he with he | he
    · have := h4 e he; omega
    · rw [List.mem_singleton.1 he]; simp
end Gp
end
section
namespace Go.Proofs.PS
open Gp Go.Proofs Go.Proofs.EN
open Gp.Bind (Bnd Slots live GoodB freeN getS In64)
open Gp.Wh (Tm)
set_option maxRecDepth 100000
set_option maxHeartbeats 1000000
abbrev I4 := Int × Int × Int × Int
def encI (x : I4) : Value := .agg ⟨[.int .i64 x.1, .int .i64 x.2.1, .int .i64 x.2.2.1, .int .i64 x.2.2.2]⟩
def wJ (x : Int) : Value := .int .i64 x
def U6 (n : Nat) : Value := .pointer (some ⟨n, 0, none⟩)
theorem eqI (a b : I4) : xQ Tryz.prog 16 78 (encI a) (encI b) = some (decide (a = b)) := by
  have h : xQ Tryz.prog 16 78 (encI a) (encI b) = some ((a.1 == b.1) && ((a.2.1 == b.2.1) && ((a.2.2.1 == b.2.2.1) && ((a.2.2.2 == b.2.2.2) && true)))) := by kernel_rfl
  rw [h]
  obtain ⟨a1, a2, a3, a4⟩ := a
  obtain ⟨b1, b2, b3, b4⟩ := b
  have ib : ∀ x y : Int, (x == y) = decide (x = y) := fun _ _ => rfl
  simp [ib, Bool.decide_and]
theorem WU (a : I4) : iJ Tryz.prog 78 (encI a) = true := by
  unfold iJ
  rw [eqI]; rfl
theorem eqN (a b : Int) : xQ Tryz.prog 16 3 (wJ a) (wJ b) = some (decide (a = b)) := WN.eqW a b
theorem UU (a : Int) : iJ Tryz.prog 3 (wJ a) = true := WN.Vb a
structure bF where
  blk : Nat
  b : Bnd
  un : Int
  id : Int
def bF.v (x : bF) : List Value := [.int .i64 x.b.sw, .int .i64 x.b.pr, .int .i64 x.b.ad, .int .i64 x.b.po, .int .i64 x.b.opr, .int .i64 x.b.oad, .int .i64 x.b.opo, .int .i64 x.un, .int .i64 x.id]
def bF.k (x : bF) : I4 := (x.b.sw, x.b.pr, x.b.ad, x.b.po)
structure SA where
  s : Nat
  a : EA
  d : Nat
  m : Nat
  ss : List ah
  ml : Nat
  mi : Nat
structure SV where
  e : ES
  now : Nat
  wn : Nat
  nx : Int
  most : Int
  L : List bF
  LI : List (I4 × Nat)
  LD : List (Int × Nat)
  l : WN.PL
  tn : Int
  F : Gp.Wh.Fs
def own (A : SA) (L : List bF) : Nat -> Nat -> Prop
  | 0, b => b = A.s
  | 1, b => DW A.a b
  | 2, b => WN.jl A.d A.m A.ss b
  | 3, b => b = A.ml
  | 4, b => b = A.mi
  | 5, b => ∃ x ∈ L, x.blk = b
  | _, _ => False
def dP (A : SA) (L : List bF) (b : Nat) : Prop := ∃ k, own A L k b
structure Srv (w : World) (A : SA) (c : Cf) (v : SV) : Prop where
  hd : Row w A.s [.pointer (some ⟨A.a.x, 0, none⟩), .pointer (some ⟨A.d, 0, none⟩), .map (some A.ml), .map (some A.mi), .int .i64 (v.now : Int), .int .i64 v.nx, .int .i64 v.most]
  en : qA w A.a c v.e
  wh : WN.WS w A.d A.m A.ss v.l v.wn v.tn v.most v.F
  li : kE encI U6 w A.ml v.LI
  ld : kE wJ U6 w A.mi v.LD
  nI : (v.LI.map (·.1)).Nodup
  nD : (v.LD.map (·.1)).Nodup
  rw : ∀ x ∈ v.L, Row w x.blk x.v
  ap : ∀ k k' b, own A v.L k b -> own A v.L k' b -> k = k'
  lt : ∀ k b, own A v.L k b -> b < w.heap.size
  bn : (v.L.map (·.blk)).Nodup
variable {w w' : World} {A : SA} {c : Cf} {v : SV}
theorem Srv.off (h : Srv w A c v) {j k b : Nat} (hk : own A v.L k b) (hn : k ≠ j) : ¬ own A v.L j b := fun hj => hn (h.ap k j b hk hj)
theorem Srv.fr {S : Nat -> Prop} (h : Srv w A c v) (hf : aF w w' S) (hs : ∀ k b, own A v.L k b -> ¬ S b) : Srv w' A c v :=
  ⟨h.hd.fr hf (hs 0 _ rfl), h.en.fr hf (fun k b hb => hs 1 b ⟨k, hb⟩), h.wh.fr hf (hs 2), h.li.fr hf (hs 3 _ rfl), h.ld.fr hf (hs 4 _ rfl), h.nI, h.nD, fun x hx => (h.rw x hx).fr hf (hs 5 _ ⟨x, hx, rfl⟩), h.ap,
    fun k b hb => Nat.lt_of_lt_of_le (h.lt k b hb) hf.size, h.bn⟩
theorem Srv.ext (h : Srv w A c v) (hf : Ext w w') : Srv w' A c v := h.fr (hf fun _ => False) (fun _ _ _ => by simp)
theorem zh (h : Srv w A c v) : gq (some ⟨A.s, 0, none⟩) w fun r w' => r = true ∧ w' = w := by
  apply AQ
  simp only [sx, h.hd.cell, Bool.not_false]
  exact ⟨by trivial, by trivial⟩
theorem Srv.setW (h : Srv w A c v) {ss : List ah} {l : WN.PL} {tn : Int} {F : Gp.Wh.Fs} (hf : aF w w' (own A v.L 2)) {wn : Nat} (hw : WN.WS w' A.d A.m ss l wn tn v.most F) (hfp : ∀ x, WN.jl A.d A.m ss x -> WN.jl A.d A.m A.ss x ∨ w.heap.size <= x) :
    Srv w' { A with ss := ss } c { v with wn := wn, l := l, tn := tn, F := F } := by
  have same : ∀ k b, k ≠ 2 -> own { A with ss := ss } v.L k b -> own A v.L k b := by
    intro k b hk ho
    match k, ho with
    | 0, ho => exact ho
    | 1, ho => exact ho
    | 2, _ => exact absurd rfl hk
    | 3, ho => exact ho
    | 4, ho => exact ho
    | 5, ho => exact ho
    | (n + 6), ho => exact ho
  have o : ∀ k b, own A v.L k b -> k ≠ 2 -> ¬ own A v.L 2 b := fun k b hk hn => h.off hk hn
  refine ⟨h.hd.fr hf (o 0 _ rfl (by decide)), h.en.fr hf (fun k b hb => o 1 b ⟨k, hb⟩ (by decide)), hw, h.li.fr hf (o 3 _ rfl (by decide)), h.ld.fr hf (o 4 _ rfl (by decide)), h.nI, h.nD, fun x hx => (h.rw x hx).fr hf (o 5 _ ⟨x, hx, rfl⟩ (by decide)),
    QT (j := 2) h.ap h.lt same (fun b hb => hfp b hb), ?_, h.bn⟩
  intro k b hb
  by_cases hk : k = 2
  · subst hk; exact hw.wm.lt hb
  · exact Nat.lt_of_lt_of_le (h.lt k b (same k b hk hb)) hf.size
theorem Srv.abE (h : Srv w A c v) {n : Nat} (hf : aF w w' (· = A.s)) (hr : Row w' A.s [.pointer (some ⟨A.a.x, 0, none⟩), .pointer (some ⟨A.d, 0, none⟩), .map (some A.ml), .map (some A.mi), .int .i64 (n : Int), .int .i64 v.nx, .int .i64 v.most]) : Srv w' A c { v with now := n } := by
  have o : ∀ k b, own A v.L k b -> k ≠ 0 -> ¬ b = A.s := fun k b hk hn he => h.off (j := 0) hk hn he
  exact ⟨hr, h.en.fr hf (fun k b hb => o 1 b ⟨k, hb⟩ (by decide)), h.wh.fr hf (fun b hb => o 2 b hb (by decide)), h.li.fr hf (o 3 _ rfl (by decide)), h.ld.fr hf (o 4 _ rfl (by decide)), h.nI, h.nD, fun x hx => (h.rw x hx).fr hf (o 5 _ ⟨x, hx, rfl⟩ (by decide)), h.ap,
    fun k b hb => Nat.lt_of_lt_of_le (h.lt k b hb) hf.size, h.bn⟩
theorem Srv.ab6 (h : Srv w A c v) {a : EA} {e : ES} (hf : aF w w' (DW A.a)) (he : qA w' a c e) (hx : a.x = A.a.x) (hfp : ∀ b, DW a b -> DW A.a b ∨ w.heap.size <= b) :
    Srv w' { A with a := a } c { v with e := e } := by
  have same : ∀ k b, k ≠ 1 -> own { A with a := a } v.L k b -> own A v.L k b := by
    intro k b hk ho
    match k, ho with
    | 0, ho => exact ho
    | 1, _ => exact absurd rfl hk
    | 2, ho => exact ho
    | 3, ho => exact ho
    | 4, ho => exact ho
    | 5, ho => exact ho
    | (n + 6), ho => exact ho
  have o : ∀ k b, own A v.L k b -> k ≠ 1 -> ¬ DW A.a b := fun k b hk hn => h.off (j := 1) hk hn
  refine ⟨?_, he, h.wh.fr hf (fun b hb => o 2 b hb (by decide)), h.li.fr hf (o 3 _ rfl (by decide)), h.ld.fr hf (o 4 _ rfl (by decide)), h.nI, h.nD, fun x hx => (h.rw x hx).fr hf (o 5 _ ⟨x, hx, rfl⟩ (by decide)),
    QT (j := 1) h.ap h.lt same (fun b hb => hfp b hb), ?_, h.bn⟩
  · have := h.hd.fr hf (o 0 _ rfl (by decide))
    simp only [hx]; exact this
  intro k b hb
  by_cases hk : k = 1
  · subst hk
    obtain ⟨j, hj⟩ := hb
    exact he.lt j b hj
  · exact Nat.lt_of_lt_of_le (h.lt k b (same k b hk hb)) hf.size
end Go.Proofs.PS
end
section
namespace Go.Proofs.PS
open Gp Go.Proofs Go.Proofs.EN
open Gp.Bind (Bnd Slots live GoodB freeN getS In64)
open Gp.Wh (Tm)
set_option maxRecDepth 100000
set_option maxHeartbeats 1000000
variable {w w' : World} {A : SA} {c : Cf} {v : SV}
def yX (n : Nat) (un : Int) (L : List bF) : List bF := L.map fun y => if y.blk = n then { y with un := un } else y
theorem Nr (n : Nat) (un : Int) (L : List bF) : (yX n un L).map (·.blk) = L.map (·.blk) := by
  unfold yX
  rw [List.map_map]
  refine List.map_congr_left fun y _ => ?_
  simp only [Function.comp]
  split <;> rfl
theorem Qg {A : SA} {L L' : List bF} (h : L'.map (·.blk) = L.map (·.blk)) (k b : Nat) : own A L' k b ↔ own A L k b := by
  match k with
  | 0 => exact Iff.rfl
  | 1 => exact Iff.rfl
  | 2 => exact Iff.rfl
  | 3 => exact Iff.rfl
  | 4 => exact Iff.rfl
  | 5 =>
    have e : ∀ M : List bF, own A M 5 b ↔ b ∈ M.map (·.blk) := fun M => by
      show (∃ x ∈ M, x.blk = b) ↔ _
      rw [List.mem_map]
    rw [e, e, h]
  | (n + 6) => exact Iff.rfl
theorem Ku {L : List bF} (h : (L.map (·.blk)).Nodup) {x y : bF} (hx : x ∈ L) (hy : y ∈ L) (e : y.blk = x.blk) : y = x := by
  induction L with
  | nil => cases hx
  | cons z L ih =>
    rw [List.map_cons, List.nodup_cons] at h
    rcases List.mem_cons.1 hx with hx | hx <;> rcases List.mem_cons.1 hy with hy | hy
    · rw [hx, hy]
    · exact absurd (List.mem_map.2 ⟨y, hy, by rw [e, hx]⟩) h.1
    · exact absurd (List.mem_map.2 ⟨x, hx, by rw [<- e, hy]⟩) h.1
    · exact ih h.2 hx hy
theorem Srv.yX (h : Srv w A c v) {x : bF} (hx : x ∈ v.L) {un : Int} (hf : aF w w' (· = x.blk)) (hr : Row w' x.blk ({ x with un := un } : bF).v) : Srv w' A c { v with L := yX x.blk un v.L } := by
  have o : ∀ k b, own A v.L k b -> k ≠ 5 -> ¬ b = x.blk := fun k b hk hn he => h.off (j := 5) hk hn ⟨x, hx, he.symm⟩
  have hb := Nr x.blk un v.L
  refine ⟨h.hd.fr hf (o 0 _ rfl (by decide)), h.en.fr hf (fun k b hb => o 1 b ⟨k, hb⟩ (by decide)), h.wh.fr hf (fun b hb => o 2 b hb (by decide)), h.li.fr hf (o 3 _ rfl (by decide)), h.ld.fr hf (o 4 _ rfl (by decide)), h.nI, h.nD, ?_,
    fun k k' b h1 h2 => h.ap k k' b ((Qg hb k b).1 h1) ((Qg hb k' b).1 h2), fun k b h1 => Nat.lt_of_lt_of_le (h.lt k b ((Qg hb k b).1 h1)) hf.size, by rw [hb]; exact h.bn⟩
  intro y hy
  obtain ⟨z, hz, rfl⟩ := List.mem_map.1 hy
  by_cases hzb : z.blk = x.blk
  · rw [if_pos hzb]
    obtain rfl := Ku h.bn hx hz hzb
    exact hr
  · rw [if_neg hzb]
    exact (h.rw z hz).fr hf hzb
theorem VL (h : Srv w A c v) {x : bF} (hx : x ∈ v.L) {life : Int} (hl : 0 <= life) (hl2 : life <= 4294967296) (hid : 0 <= x.id ∧ x.id <= 8192) (hroom : d_ v.l x.id ≠ none ∨ (v.l.length : Int) < v.most) (ht : v.tn < 2 ^ 62) (hwn : v.wn = v.now) :
    gU (some ⟨A.s, 0, none⟩) (some ⟨x.blk, 0, none⟩) life w fun w' => aF w w' (dP A v.L) ∧ ∃ ss F, (∀ b, WN.jl A.d A.m ss b -> WN.jl A.d A.m A.ss b ∨ w.heap.size <= b) ∧
      Srv w' { A with ss := ss } c { v with L := yX x.blk (v.now + life) v.L, l := BG v.l x.id ⟨x.id, max (min ((v.now : Int) + life) 1099511627776).toNat v.wn, v.tn + 1⟩, tn := v.tn + 1, F := F } := by
  apply Eb
  have hnow := h.wh.wi.nw
  simp only [sx, h.hd.cell]
  rw [wrap_i64 (by omega) (by omega)]
  refine aZ (h.rw x hx) rfl (by simp [bF.v]) fun w1 r1 f1' z1 => ?_
  have f1 : aF w w1 (· = x.blk) := f1' _ rfl
  have h1 := (h.yX hx (un := (v.now : Int) + life) f1 r1).ext (Ext.drew w1)
  have r1' : Row w1.drew x.blk ({ x with un := (v.now : Int) + life } : bF).v := r1.drew
  simp only [sx, h1.hd.cell, r1'.cell, bF.v]
  have hmin : (if (1099511627776 : Int) < (v.now : Int) + life then 1099511627776 else (v.now : Int) + life) = min ((v.now : Int) + life) 1099511627776 := by omega
  rw [hmin]
  have ha : WN.Qo v.l v.most x.id (min ((v.now : Int) + life) 1099511627776) = 0 := by
    unfold WN.Qo
    rw [if_neg (by omega), if_neg]
    rintro ⟨h1, h2⟩
    rcases hroom with h3 | h3
    · exact h3 h1
    · omega
  refine ET (WN.aao h1.wh _ _ ht) ?_
  rintro r w2 ⟨_, f2, ss, F, hfp, hw⟩
  simp only [ha, if_true] at hw
  have e1 : w1.drew.heap.size = w1.heap.size := rfl
  refine ⟨?_, ss, F, fun b hb => ?_, h1.setW f2 hw hfp⟩
  · have g1 : aF w w1 (dP A v.L) := f1.mono fun b hb => ⟨5, x, hx, hb.symm⟩
    exact (g1.ext (Ext.drew w1)).trans f2 fun b _ hb => ⟨2, hb⟩
  · rcases hfp b hb with hb | hb
    · exact .inl hb
    · exact .inr (by have := f1.size; omega)
end Go.Proofs.PS
end
section
namespace Go.Proofs.PS
open Gp Go.Proofs Go.Proofs.EN
open Gp.Bind (Bnd Slots live GoodB freeN getS In64)
open Gp.Wh (Tm)
set_option maxRecDepth 100000
set_option maxHeartbeats 1000000
variable {w w' : World} {A : SA} {c : Cf} {v : SV}
theorem Srv.aaJ (h : Srv w A c v) {LI : List (I4 × Nat)} (hf : aF w w' (· = A.ml)) (hm : kE encI U6 w' A.ml LI) (hn : (LI.map (·.1)).Nodup) : Srv w' A c { v with LI := LI } := by
  have o : ∀ k b, own A v.L k b -> k ≠ 3 -> ¬ b = A.ml := fun k b hk hn he => h.off (j := 3) hk hn he
  exact ⟨h.hd.fr hf (o 0 _ rfl (by decide)), h.en.fr hf (fun k b hb => o 1 b ⟨k, hb⟩ (by decide)), h.wh.fr hf (fun b hb => o 2 b hb (by decide)), hm, h.ld.fr hf (o 4 _ rfl (by decide)), hn, h.nD, fun x hx => (h.rw x hx).fr hf (o 5 _ ⟨x, hx, rfl⟩ (by decide)), h.ap,
    fun k b hb => Nat.lt_of_lt_of_le (h.lt k b hb) hf.size, h.bn⟩
theorem Srv.aax (h : Srv w A c v) {LD : List (Int × Nat)} (hf : aF w w' (· = A.mi)) (hm : kE wJ U6 w' A.mi LD) (hn : (LD.map (·.1)).Nodup) : Srv w' A c { v with LD := LD } := by
  have o : ∀ k b, own A v.L k b -> k ≠ 4 -> ¬ b = A.mi := fun k b hk hn he => h.off (j := 4) hk hn he
  exact ⟨h.hd.fr hf (o 0 _ rfl (by decide)), h.en.fr hf (fun k b hb => o 1 b ⟨k, hb⟩ (by decide)), h.wh.fr hf (fun b hb => o 2 b hb (by decide)), h.li.fr hf (o 3 _ rfl (by decide)), hm, h.nI, hn, fun x hx => (h.rw x hx).fr hf (o 5 _ ⟨x, hx, rfl⟩ (by decide)), h.ap,
    fun k b hb => Nat.lt_of_lt_of_le (h.lt k b hb) hf.size, h.bn⟩
theorem Srv.acF (h : Srv w A c v) (p : bF -> Bool) : Srv w A c { v with L := v.L.filter p } := by
  have sub : ∀ k b, own A (v.L.filter p) k b -> own A v.L k b := by
    intro k b ho
    match k, ho with
    | 0, ho => exact ho
    | 1, ho => exact ho
    | 2, ho => exact ho
    | 3, ho => exact ho
    | 4, ho => exact ho
    | 5, ⟨x, hx, e⟩ => exact ⟨x, (List.mem_filter.1 hx).1, e⟩
    | (n + 6), ho => exact ho
  exact ⟨h.hd, h.en, h.wh, h.li, h.ld, h.nI, h.nD, fun x hx => h.rw x (List.mem_filter.1 hx).1, fun k k' b h1 h2 => h.ap k k' b (sub k b h1) (sub k' b h2), fun k b hb => h.lt k b (sub k b hb),
    h.bn.sublist (List.filter_sublist.map _)⟩
theorem VA (h : Srv w A c v) (hi : Inv c v.e) (hs : Zl v.e) {x : bF} (hx : x ∈ v.L) {i : Nat} (hb : v.e.S[i]? = some (some x.b)) (hst : x.b.st = true) :
    gV (some ⟨A.s, 0, none⟩) (some ⟨x.blk, 0, none⟩) w fun w' => aF w w' (dP A v.L) ∧ ∃ ss F Mi Mo Q G, (∀ b, WN.jl A.d A.m ss b -> WN.jl A.d A.m A.ss b ∨ w.heap.size <= b) ∧
      Inv c { v.e with S := v.e.S.set i none, Mi := Mi, Mo := Mo, Q := Q, G := G } ∧
      Srv w' { A with ss := ss } c { v with e := { v.e with S := v.e.S.set i none, Mi := Mi, Mo := Mo, Q := Q, G := G }, L := v.L.filter fun y => !(y.blk == x.blk), LI := qw v.LI x.k, LD := qw v.LD x.id, l := qw v.l x.id, F := F } := by
  apply DI
  have h1 := h.ext (Ext.drew w)
  have r1 := h1.rw x hx
  simp only [bF.v] at r1
  simp only [sx, h1.hd.cell, r1.cell]
  refine CY (Yv h1.en hi hs hb hst) ?_
  rintro r w2 ⟨_, f2, Mi, Mo, Q, G, e2, i2⟩
  have h2 := (h1.ab6 f2 e2 rfl (fun b hb => .inl hb)).ext (Ext.drew w2)
  have g2 : aF w w2 (dP A v.L) := ((Ext.drew w).fr f2).mono fun b hb => ⟨1, hb⟩
  have r2 := h2.rw x hx
  simp only [bF.v] at r2
  simp only [sx, h2.hd.cell, r2.cell]
  refine rY (WN.Rf h2.wh x.id) ?_
  rintro r w3 ⟨_, f3, ss, F, w3h, hfp⟩
  have h3 := (h2.setW (tn := v.tn) f3 w3h hfp).ext (Ext.drew w3)
  have g3 : aF w w3 (dP A v.L) := (g2.ext (Ext.drew _)).trans f3 fun b _ hb => ⟨2, hb⟩
  have r3 := h3.rw x hx
  simp only [bF.v] at r3
  simp only [sx, h3.hd.cell, r3.cell]
  refine Gw (ev := U6) h3.li eqI x.k (WU _) fun w4 m4 f4 z4 => ?_
  have h4 := (h3.aaJ f4 m4 (h3.nI.sublist ((F9 _ _).map _))).ext (Ext.drew w4)
  have g4 : aF w w4 (dP A v.L) := (g3.ext (Ext.drew _)).trans f4 fun b _ hb => ⟨3, hb⟩
  have r4 := h4.rw x hx
  simp only [bF.v] at r4
  simp only [sx, h4.hd.cell, r4.cell]
  refine Gw (enc := wJ) (ev := U6) h4.ld eqN x.id (UU _) fun w5 m5 f5 z5 => ?_
  have h5 := h4.aax f5 m5 (h4.nD.sublist ((F9 _ _).map _))
  have g5 : aF w w5 (dP A v.L) := (g4.ext (Ext.drew _)).trans f5 fun b _ hb => ⟨4, hb⟩
  refine ⟨g5, ss, F, Mi, Mo, Q, G, fun b hb => ?_, i2, h5.acF _⟩
  rcases hfp b hb with hb | hb
  · exact .inl hb
  · refine .inr ?_
    have := g2.size
    have e2 : w2.drew.heap.size = w2.heap.size := rfl
    omega
end Go.Proofs.PS
end
section
namespace Go.Proofs.PS
open Gp Go.Proofs Go.Proofs.EN
open Gp.Bind (Bnd Slots live GoodB freeN getS In64)
open Gp.Wh (Tm)
set_option maxRecDepth 100000
set_option maxHeartbeats 1000000
structure Good (c : Cf) (Z : Bnd -> Prop) (v : SV) (P : List Int) : Prop where
  inv : Inv c v.e
  ns : Zl v.e
  wn : v.wn = v.now
  li : ∀ k n, d_ v.LI k = some n ↔ ∃ x ∈ v.L, x.k = k ∧ x.blk = n
  ld : ∀ i n, d_ v.LD i = some n ↔ ∃ x ∈ v.L, x.id = i ∧ x.blk = n
  kk : ∀ x ∈ v.L, ∀ y ∈ v.L, x.k = y.k -> x = y
  ii : ∀ x ∈ v.L, ∀ y ∈ v.L, x.id = y.id -> x = y
  eb : ∀ x ∈ v.L, x.b.st = true ∧ ∃ i : Nat, v.e.S[i]? = some (some x.b)
  ex : ∀ (j : Nat) (b : Bnd), v.e.S[j]? = some (some b) -> (∃ x ∈ v.L, x.b = b) ∨ Z b
  ir : ∀ x ∈ v.L, 0 <= x.id ∧ x.id < 8192
  wl : ∀ id, (d_ v.l id).isSome = true ↔ ∃ x ∈ v.L, x.id = id ∧ id ∉ P
  wt : ∀ x ∈ v.L, ∀ t, d_ v.l x.id = some t -> (t.a : Int) = min x.un 1099511627776
variable {w w' : World} {A : SA} {c : Cf} {Z : Bnd -> Prop} {v : SV}
theorem Good.drop {P P' : List Int} (h : Good c Z v P) (hm : Srv w A c v) {x : bF} (hx : x ∈ v.L) {i : Nat} (hb : v.e.S[i]? = some (some x.b)) (hP : ∀ id, id ≠ x.id -> (id ∈ P' ↔ id ∈ P))
    {Mi Mo : ByteArray -> Option Int} {Q : List Int} {G : List (PN.O3 × Unit)} (F : Gp.Wh.Fs) (hi : Inv c { v.e with S := v.e.S.set i none, Mi := Mi, Mo := Mo, Q := Q, G := G }) :
    Good c Z { v with e := { v.e with S := v.e.S.set i none, Mi := Mi, Mo := Mo, Q := Q, G := G }, L := v.L.filter fun y => !(y.blk == x.blk), LI := qw v.LI x.k, LD := qw v.LD x.id, l := qw v.l x.id, F := F } P' := by
  have mem : ∀ y, y ∈ (v.L.filter fun y => !(y.blk == x.blk)) ↔ y ∈ v.L ∧ y ≠ x := by
    intro y
    rw [List.mem_filter]
    constructor
    · rintro ⟨h1, h2⟩
      refine ⟨h1, fun e => ?_⟩
      subst e
      simp at h2
    · rintro ⟨h1, h2⟩
      refine ⟨h1, ?_⟩
      have : y.blk ≠ x.blk := fun e => h2 (Ku hm.bn hx h1 e)
      simpa using this
  have nl := hm.wh.wm.nd
  refine ⟨hi, h.ns, h.wn, fun k n => ?_, fun j n => ?_, fun y hy z hz => h.kk y ((mem y).1 hy).1 z ((mem z).1 hz).1, fun y hy z hz => h.ii y ((mem y).1 hy).1 z ((mem z).1 hz).1, fun y hy => ?_, fun j b hj => ?_, fun y hy => h.ir y ((mem y).1 hy).1, fun id => ?_, fun y hy t ht => ?_⟩
  · rw [AP hm.nI]
    split
    · rename_i hk
      refine ⟨(fun h => by cases h), ?_⟩
      rintro ⟨y, hy, hyk, _⟩
      exact absurd (h.kk y ((mem y).1 hy).1 x hx (hyk.trans hk)) ((mem y).1 hy).2
    · rename_i hk
      rw [h.li]
      constructor
      · rintro ⟨y, hy, hyk, hyn⟩
        exact ⟨y, (mem y).2 ⟨hy, fun e => hk (by rw [<- hyk, e])⟩, hyk, hyn⟩
      · rintro ⟨y, hy, hyk, hyn⟩
        exact ⟨y, ((mem y).1 hy).1, hyk, hyn⟩
  · rw [AP hm.nD]
    split
    · rename_i hk
      refine ⟨(fun h => by cases h), ?_⟩
      rintro ⟨y, hy, hyk, _⟩
      exact absurd (h.ii y ((mem y).1 hy).1 x hx (hyk.trans hk)) ((mem y).1 hy).2
    · rename_i hk
      rw [h.ld]
      constructor
      · rintro ⟨y, hy, hyk, hyn⟩
        exact ⟨y, (mem y).2 ⟨hy, fun e => hk (by rw [<- hyk, e])⟩, hyk, hyn⟩
      · rintro ⟨y, hy, hyk, hyn⟩
        exact ⟨y, ((mem y).1 hy).1, hyk, hyn⟩
  · obtain ⟨hy1, hy2⟩ := (mem y).1 hy
    obtain ⟨hst, j, hj⟩ := h.eb y hy1
    refine ⟨hst, j, ?_⟩
    show (v.e.S.set i none)[j]? = _
    rw [List.getElem?_set]
    split
    · rename_i hij
      subst hij
      rw [hb] at hj
      have e : x.b = y.b := by simpa using hj
      exact absurd (h.kk y hy1 x hx (by unfold bF.k; rw [e])) hy2
    · exact hj
  · have hj2 : (v.e.S.set i none)[j]? = some (some b) := hj
    clear hj
    rw [List.getElem?_set] at hj2
    split at hj2
    · simp at hj2
    · rename_i hij
      rcases h.ex j b hj2 with ⟨y, hy, rfl⟩ | hz
      · refine .inl ⟨y, (mem y).2 ⟨hy, fun e => hij ?_⟩, rfl⟩
        subst e
        exact (I9 hm.en.db.good hb hj2 rfl).symm
      · exact .inr hz
  · show (d_ (qw v.l x.id) id).isSome = true ↔ _
    rw [AP nl]
    split
    · rename_i hk
      refine ⟨(fun h => by cases h), ?_⟩
      rintro ⟨y, hy, hyk, _⟩
      exact absurd (h.ii y ((mem y).1 hy).1 x hx (hyk.trans hk)) ((mem y).1 hy).2
    · rename_i hk
      rw [h.wl]
      constructor
      · rintro ⟨y, hy, hyk, hyn⟩
        exact ⟨y, (mem y).2 ⟨hy, fun e => hk (by rw [<- hyk, e])⟩, hyk, fun hp => hyn ((hP id hk).1 hp)⟩
      · rintro ⟨y, hy, hyk, hyn⟩
        exact ⟨y, ((mem y).1 hy).1, hyk, fun hp => hyn ((hP id hk).2 hp)⟩
  · have ht : d_ (qw v.l x.id) y.id = some t := ht
    rw [AP nl] at ht
    split at ht
    · cases ht
    · exact h.wt y ((mem y).1 hy).1 t ht
end Go.Proofs.PS
end
