import Derived.Test.YtfndjkoiappemaaGreatW14
import Derived.Test.YtfndjkoiappemaaGreatPc2
import Derived.Test.YtfndjkoiappemaaGreatW4
import Derived.Test.YtfndjkoiappemaaGreatW3
section
namespace Go.Proofs.PM
open Gp Gp.V4 Go.Proofs Go.Proofs.CN
open Gp.Bind (In64)
set_option maxRecDepth 100000
set_option maxHeartbeats 1000000
theorem seg {α : Type} (A B C : List α) {i k : Nat} (hi : A.length = i) (hk : B.length = k) : ((A ++ (B ++ C)).drop i).take k = B := by
  subst hi hk
  rw [List.drop_left, List.take_left]
theorem xO (A C : List UInt8) {i k n : Nat} (hi : A.length = i) (hn : n < 256 ^ k) : num (A ++ (o9 k n ++ C)) i k = n := by
  unfold num
  rw [seg A (o9 k n) C hi (gW k n), Xe, Nat.mod_eq_of_lt hn]
theorem gY {l : List UInt8} {n k : Int} (h : fitsP n k) : Ed l n k = l ++ o9 k.toNat n.toNat := by unfold Ed; rw [if_pos h]
theorem Xl (k : Int) (h : 1 <= k ∧ k <= 4) : fitsP 0 k := by
  have := Int.pow_pos (n := 256) (m := k.toNat) (by decide)
  exact ⟨h, by omega, by omega⟩
theorem A_ {n k : Int} (h : fitsP n k) : n.toNat < 256 ^ k.toNat := by
  obtain ⟨_, h1, h2⟩ := h
  have : ((n.toNat : Nat) : Int) < ((256 ^ k.toNat : Nat) : Int) := by
    rw [Int.toNat_of_nonneg h1]; exact_mod_cast h2
  exact_mod_cast this
theorem Zd {l no : List UInt8} {p : PA} (h : p.may) : EC l no p = l ++ (no ++ (o9 1 p.pr.toNat ++ (o9 3 0 ++ (o9 2 p.po.toNat ++ (o9 2 p.ou.toNat ++ (List.replicate 10 0 ++ ([255, 255] ++ o9 4 p.ad.toNat))))))) := by
  obtain ⟨_, h1, h2, h3, h4⟩ := h
  have ha : (p.ad % 4294967296).toNat = p.ad.toNat := by
    obtain ⟨_, g1, g2⟩ := h4
    have : (256 : Int) ^ (4 : Int).toNat = 4294967296 := by decide
    omega
  unfold EC lU mapped
  simp only [List.foldl_cons, List.foldl_nil]
  rw [gY h1, gY (Xl 3 (by omega)), gY h2, gY h3, ha]
  simp only [List.append_assoc]
  rfl
structure abX (L l no : List UInt8) (p : PA) : Prop where
  len : L.length = 60
  hd : ∀ i k, i + k <= 24 -> num L i k = num l i k
  hs : ∀ i k, i + k <= 24 -> (L.drop i).take k = (l.drop i).take k
  no : (L.drop 24).take 12 = no
  pr : num L 36 1 = p.pr.toNat
  po : num L 40 2 = p.po.toNat
  ou : num L 42 2 = p.ou.toNat
  ad : num L 56 4 = p.ad.toNat
  pre : (L.drop 44).take 12 = pre
theorem LX {l no : List UInt8} {p : PA} (hl : l.length = 24) (hno : no.length = 12) (h : p.may) : abX (EC l no p) l no p := by
  have e := Zd (l := l) (no := no) h
  obtain ⟨_, h1, h2, h3, h4⟩ := h
  have l1 := A_ h1
  have l2 := A_ h2
  have l3 := A_ h3
  have l4 := A_ h4
  have hsub : ∀ i k, i + k <= 24 -> ((EC l no p).drop i).take k = (l.drop i).take k := by
    intro i k hik
    rw [e, List.drop_append_of_le_length (by omega), List.take_append_of_le_length (by rw [List.length_drop]; omega)]
  refine ⟨?_, fun i k hik => by unfold num; rw [hsub i k hik], hsub, ?_, ?_, ?_, ?_, ?_, ?_⟩
  · rw [e]; simp [gW, hl, hno]
  · rw [e]; exact seg _ _ _ hl hno
  · rw [e, <- List.append_assoc]
    exact xO _ _ (by simp [hl, hno]) l1
  · rw [e, <- List.append_assoc, <- List.append_assoc, <- List.append_assoc]
    exact xO _ _ (by simp [hl, hno, gW]) l2
  · rw [e, <- List.append_assoc, <- List.append_assoc, <- List.append_assoc, <- List.append_assoc]
    exact xO _ _ (by simp [hl, hno, gW]) l3
  · have e2 : EC l no p = (l ++ (no ++ (o9 1 p.pr.toNat ++ (o9 3 0 ++ (o9 2 p.po.toNat ++ (o9 2 p.ou.toNat ++ (List.replicate 10 0 ++ [255, 255]))))))) ++ (o9 4 p.ad.toNat ++ []) := by rw [e]; simp only [List.append_assoc, List.append_nil]
    rw [e2]
    exact xO _ _ (by simp [hl, hno, gW]) l4
  · have e2 : EC l no p = (l ++ (no ++ (o9 1 p.pr.toNat ++ (o9 3 0 ++ (o9 2 p.po.toNat ++ o9 2 p.ou.toNat))))) ++ (PM.pre ++ o9 4 p.ad.toNat) := by rw [e]; simp only [List.append_assoc]; rfl
    rw [e2]
    exact seg _ _ _ (by simp [hl, hno, gW]) rfl
def MR (lf : Int) (cl : List UInt8) : List UInt8 := lU [] [(2, 1, ()), (1, 1, ()), (0, 2, ()), (lf, 4, ())] ++ cl
def N9 (cl no : List UInt8) (p : PA) : List UInt8 := EC (MR p.lf cl) no p
theorem Za {lf : Int} {cl : List UInt8} (h : fitsP lf 4) : MR lf cl = [2, 1, 0, 0] ++ (o9 4 lf.toNat ++ cl) := by
  unfold MR lU
  simp only [List.foldl_cons, List.foldl_nil]
  rw [gY (n := 2) (k := 1) ⟨⟨by omega, by omega⟩, by omega, by decide⟩, gY (n := 1) (k := 1) ⟨⟨by omega, by omega⟩, by omega, by decide⟩, gY (Xl 2 (by omega)), gY h]
  simp only [List.append_assoc]
  rfl
theorem U9 {cl no : List UInt8} {p : PA} (hc : cl.length = 16) (hno : no.length = 12) (h : p.may) :
    fO (N9 cl no p) 1 = 0 ∧ uQ (N9 cl no p) = p ∧ ((N9 cl no p).drop 8).take 16 = cl ∧ ((N9 cl no p).drop 24).take 12 = no := by
  have hq := Za (cl := cl) h.1
  have hql : (MR p.lf cl).length = 24 := by rw [hq]; simp [gW, hc]
  obtain ⟨t1, t2, t3, t4, t5, t6, t7, t8, t9⟩ := LX hql hno h
  have n0 : num (MR p.lf cl) 0 1 = 2 := by rw [hq]; rfl
  have n1 : num (MR p.lf cl) 1 1 = 1 := by rw [hq]; rfl
  have n4 : num (MR p.lf cl) 4 4 = p.lf.toNat := by rw [hq]; exact xO _ _ rfl (A_ h.1)
  refine ⟨?_, ?_, ?_, t4⟩
  · unfold fO N9
    rw [if_neg (by omega), if_neg (by omega), if_neg]
    rw [t2 0 1 (by omega), t2 1 1 (by omega), n0, n1]
    exact fun hn => hn ⟨rfl, rfl, t9⟩
  · obtain ⟨⟨_, a1, _⟩, ⟨_, a2, _⟩, ⟨_, a3, _⟩, ⟨_, a4, _⟩, ⟨_, a5, _⟩⟩ := h
    unfold uQ N9
    rw [t2 4 4 (by omega), n4, t5, t6, t7, t8, Int.toNat_of_nonneg a1, Int.toNat_of_nonneg a2, Int.toNat_of_nonneg a3, Int.toNat_of_nonneg a4, Int.toNat_of_nonneg a5]
  · unfold N9
    rw [t3 8 16 (by omega), hq, <- List.append_assoc, List.drop_left' (by simp [gW]), List.take_of_length_le (by omega)]
def Gg (r ep lf : Int) : List UInt8 := lU (lU [] [(2, 1, ()), (129, 1, ()), (0, 1, ()), (r, 1, ())]) [(lf, 4, ()), (ep, 4, ()), (0, 4, ()), (0, 4, ()), (0, 4, ())]
theorem X6 {r ep lf : Int} (h1 : fitsP r 1) (h2 : fitsP ep 4) (h3 : fitsP lf 4) : Gg r ep lf = [2, 129, 0] ++ (o9 1 r.toNat ++ (o9 4 lf.toNat ++ (o9 4 ep.toNat ++ List.replicate 12 0))) := by
  unfold Gg lU
  simp only [List.foldl_cons, List.foldl_nil]
  rw [gY (n := 2) (k := 1) ⟨⟨by omega, by omega⟩, by omega, by decide⟩, gY (n := 129) (k := 1) ⟨⟨by omega, by omega⟩, by omega, by decide⟩, gY (Xl 1 (by omega)), gY h1, gY h3, gY h2, gY (Xl 4 (by omega)), gY (Xl 4 (by omega)), gY (Xl 4 (by omega))]
  simp only [List.append_assoc]
  rfl
theorem Xd {r ep : Int} {no : List UInt8} {p : PA} (hno : no.length = 12) (h : DJ r ep p) :
    fO (Fj r ep no p) 129 = 0 ∧ uQ (Fj r ep no p) = p ∧ num (Fj r ep no p) 3 1 = r.toNat ∧ num (Fj r ep no p) 8 4 = ep.toNat ∧ (Fj r ep no p).length = 60 := by
  obtain ⟨hm, hr, he⟩ := h
  have hq := X6 hr he hm.1
  have hql : (Gg r ep p.lf).length = 24 := by rw [hq]; simp [gW]
  have e : Fj r ep no p = EC (Gg r ep p.lf) no p := rfl
  obtain ⟨t1, t2, t3, t4, t5, t6, t7, t8, t9⟩ := LX hql hno hm
  have n0 : num (Gg r ep p.lf) 0 1 = 2 := by rw [hq]; rfl
  have n1 : num (Gg r ep p.lf) 1 1 = 129 := by rw [hq]; rfl
  have n3 : num (Gg r ep p.lf) 3 1 = r.toNat := by rw [hq]; exact xO _ _ rfl (A_ hr)
  have n4 : num (Gg r ep p.lf) 4 4 = p.lf.toNat := by rw [hq, <- List.append_assoc]; exact xO _ _ (by simp [gW]) (A_ hm.1)
  have n8 : num (Gg r ep p.lf) 8 4 = ep.toNat := by rw [hq, <- List.append_assoc, <- List.append_assoc]; exact xO _ _ (by simp [gW]) (A_ he)
  refine ⟨?_, ?_, ?_, ?_, ?_⟩
  · unfold fO
    rw [e, if_neg (by omega), if_neg (by omega), if_neg]
    rw [t2 0 1 (by omega), t2 1 1 (by omega), n0, n1]
    exact fun hn => hn ⟨rfl, rfl, t9⟩
  · obtain ⟨⟨_, a1, _⟩, ⟨_, a2, _⟩, ⟨_, a3, _⟩, ⟨_, a4, _⟩, ⟨_, a5, _⟩⟩ := hm
    unfold uQ
    rw [e, t2 4 4 (by omega), n4, t5, t6, t7, t8, Int.toNat_of_nonneg a1, Int.toNat_of_nonneg a2, Int.toNat_of_nonneg a3, Int.toNat_of_nonneg a4, Int.toNat_of_nonneg a5]
  · rw [e, t2 3 1 (by omega), n3]
  · rw [e, t2 8 4 (by omega), n8]
  · rw [e, t1]
end Go.Proofs.PM
end
section
namespace Go.Proofs.CN
open Gp
set_option maxRecDepth 100000
def words (n : Nat) : List Int := [8193, 3512, (n : Int), 0, 0, 0, 0, 1]
def Tj (n j : Nat) : List Int := ((words n).take j).flatMap (fun x => [x / 256, x % 256]) ++ List.replicate (16 - 2 * j) 0
def H_ (n : Nat) : kS := (32, 1, 13, 184, 0, (n : Int), 0, 0, 0, 0, 0, 0, 0, 0, 0, 1, ())
abbrev Z_ (l : List Int) : List Value := l.map fun x => Value.int .u8 x
theorem VT (l : List Int) (i : Nat) (x : Int) : (Z_ l).set i (.int .u8 x) = Z_ (l.set i x) := by
  unfold Z_; rw [List.map_set]
theorem Xg : ∀ (n : Fin 3) (j : Fin 8), ((Tj n j).set (2 * j) (IntKind.u8.wrap (IntKind.i64.wrap (Int.tdiv (Int.tmod (IntKind.i64.wrap ((Int.tmod ((words n).getD j 0) 65536) + 65536)) 65536) 256)))).set (2 * j + 1) (IntKind.u8.wrap (Int.tmod (Int.tmod (IntKind.i64.wrap ((Int.tmod ((words n).getD j 0) 65536) + 65536)) 65536) 256)) = Tj n (j + 1) := by decide
theorem Z4 : ∀ (n : Fin 3) (j : Fin 9), (Tj n j).length = 16 := by decide
theorem aah : ∀ (n : Fin 3), Z_ (Tj n 8) = e16 (H_ n) := by
  intro n
  match n with
  | 0 => rfl
  | 1 => rfl
  | 2 => rfl
end Go.Proofs.CN
namespace Go.Proofs.CN
open Gp
set_option maxRecDepth 100000
theorem WC (n : Nat) : ∀ (j : Nat), j < 8 -> (words n)[j]? = some ((words n).getD j 0)
  | 0, _ => rfl
  | 1, _ => rfl
  | 2, _ => rfl
  | 3, _ => rfl
  | 4, _ => rfl
  | 5, _ => rfl
  | 6, _ => rfl
  | 7, _ => rfl
  | j + 8, h => absurd h (by omega)
theorem aa7 : ∀ (n : Fin 3), [Value.int .u8 0, .int .u8 0, .int .u8 0, .int .u8 0, .int .u8 0, .int .u8 0, .int .u8 0, .int .u8 0, .int .u8 0, .int .u8 0, .int .u8 0, .int .u8 0, .int .u8 0, .int .u8 0, .int .u8 0, .int .u8 0] = Z_ (Tj n 0) := fun _ => rfl
theorem ZF {W : World} {b : Nat} (n : Fin 3) (h : Row W b (Z_ (Tj n 8))) : Row W b [.int .u8 32, .int .u8 1, .int .u8 13, .int .u8 184, .int .u8 0, .int .u8 ((n : Nat) : Int), .int .u8 0, .int .u8 0, .int .u8 0, .int .u8 0, .int .u8 0, .int .u8 0, .int .u8 0, .int .u8 0, .int .u8 0, .int .u8 1] := by
  rw [aah] at h; exact h
theorem Vz (l : List Int) : (Z_ l).length = l.length := List.length_map ..
theorem NJ (n : Fin 3) {w : World} {s : ah} (hs : iM 1 eI w s (words n)) : qy s w fun r0 r1 r2 r3 r4 r5 r6 r7 r8 r9 r10 r11 r12 r13 r14 r15 w' => ((r0, r1, r2, r3, r4, r5, r6, r7, r8, r9, r10, r11, r12, r13, r14, r15, ()) : kS) = H_ n ∧ Ext w w' := by
  apply TW
  refine aN fun a w1 ra ea z1 f1 => aN fun b w2 rb eb z2 f2 => ?_
  have hs0 := hs
  have ra := ra.ext f2
  have hs := hs.ext (f1.trans f2)
  have hlen : s.len = 8 := hs.len
  have rb : Row w2 b (Z_ (Tj n 0)) := by rw [<- aa7 n]; exact rb
  refine aG (fun st W => ∃ j : Nat, j <= 8 ∧ st.1 = (j : Int) ∧ Row W b (Z_ (Tj n j)) ∧ aF w2 W (· = b)) (fun st _ => (8 - st.1).toNat) ⟨0, by omega, rfl, rb, aF.refl _ _⟩ ?_
  rintro ⟨i, ⟨⟩⟩ W ⟨j, hj, hi, rW, fW⟩ next hnext
  simp only at hi
  subst hi
  simp -zeta only []
  intro J9
  by_cases hlt : (j : Int) < (s.len : Int)
  · have hj8 : j < 8 := by omega
    rw [decide_eq_true hlt, cond_true, decide_eq_true (show (j : Int) < 8 by omega)]
    simp only [J9]
    rw [cond_true]
    have hget := WC n j hj8
    have hsW : iM 1 eI W s (words n) := hs.fr fW (fun c hc _ e => by
      have := Yj fJ (by omega) hs0 hc (by show 0 < 8; omega)
      omega)
    refine dS fJ (by omega) hsW (by omega) (by rw [Int.toNat_natCast]; exact hget) fun a' hc => ?_
    have hc0 := hc 0 _ rfl
    rw [show a'.add 0 = a' from rfl] at hc0
    have hl16 := Z4 n ⟨j, by omega⟩
    have hst := Xg n ⟨j, hj8⟩
    simp only at hl16 hst
    have e2j : IntKind.i64.wrap (2 * (j : Int)) = ((2 * j : Nat) : Int) := by rw [wrap_i64 (by omega) (by omega)]; omega
    simp only [sx, hc0, e2j]
    rw [wrap_i64 (n := ((2 * j : Nat) : Int) + 1) (by omega) (by omega), show ((2 * j : Nat) : Int) + 1 = ((2 * j + 1 : Nat) : Int) by omega]
    simp only [Int.toNat_natCast, Nat.mul_one]
    refine ⟨by decide, by decide, by decide, by decide, by omega, by omega, aZ rW rfl (by rw [Vz, hl16]; omega) fun w5 r5 f5 z5 => ?_⟩
    rw [VT] at r5
    refine ⟨by omega, by omega, aZ r5 rfl (by rw [Vz, List.length_set, hl16]; omega) fun w6 r6 f6 z6 => ?_⟩
    rw [VT, hst] at r6
    rw [wrap_i64 (by omega) (by omega)]
    refine hnext _ _ ⟨j + 1, by omega, by simp, r6, (fW.trans (f5 (· = b) rfl) fun _ _ e => e).trans (f6 (· = b) rfl) fun _ _ e => e⟩ (by simp only; omega)
  · rw [decide_eq_false hlt, cond_false]
    have : j = 8 := by omega
    subst this
    simp only [J9]
    rw [cond_false]
    have rW := ZF n rW
    have raW := ra.fr fW (by omega)
    simp only [sx, rW.cell]
    refine aQ raW rfl rfl fun w5 r5 f5 z5 => ?_
    simp only [List.getElem?_cons_zero, List.getElem?_cons_succ, au, aC, r5.cell]
    exact ⟨rfl, (f1.trans f2).new (S := fun x => x = b ∨ x = a) ((fW.mono fun _ => Or.inl).trans (f5 _ (.inr rfl)) fun _ _ e => e) (by intro x hx h; rcases h with rfl | rfl <;> omega)⟩
end Go.Proofs.CN
namespace Go.Proofs.CN
open Gp
set_option maxRecDepth 100000
theorem QV {r0 r1 r2 r3 r4 r5 r6 r7 r8 r9 r10 r11 r12 r13 r14 r15 : Int} {n : Nat} {z : Int} (hz : (n : Int) = z) (h : ((r0, r1, r2, r3, r4, r5, r6, r7, r8, r9, r10, r11, r12, r13, r14, r15, ()) : kS) = H_ n) : r0 = 32 ∧ r1 = 1 ∧ r2 = 13 ∧ r3 = 184 ∧ r4 = 0 ∧ r5 = z ∧ r6 = 0 ∧ r7 = 0 ∧ r8 = 0 ∧ r9 = 0 ∧ r10 = 0 ∧ r11 = 0 ∧ r12 = 0 ∧ r13 = 0 ∧ r14 = 0 ∧ r15 = 1 := by
  subst hz
  simp only [H_, Prod.mk.injEq, and_true] at h
  exact h
structure TM (w w' : World) (bs bp : Nat) : Prop where
  rs : Row w' bs (.int .u8 32 :: .int .u8 1 :: .int .u8 13 :: .int .u8 184 :: .int .u8 0 :: .int .u8 1 :: .int .u8 0 :: .int .u8 0 :: .int .u8 0 :: .int .u8 0 :: .int .u8 0 :: .int .u8 0 :: .int .u8 0 :: .int .u8 0 :: .int .u8 0 :: .int .u8 1 :: .int .u8 32 :: .int .u8 1 :: .int .u8 13 :: .int .u8 184 :: .int .u8 0 :: .int .u8 2 :: .int .u8 0 :: .int .u8 0 :: .int .u8 0 :: .int .u8 0 :: .int .u8 0 :: .int .u8 0 :: .int .u8 0 :: .int .u8 0 :: .int .u8 0 :: .int .u8 1 :: [])
  rp : Row w' bp [.int .i64 3325256705]
  hs : w.heap.size <= bs
  hp : w.heap.size <= bp
  ne : bs ≠ bp
  ext : Ext w w'
abbrev ab1 (w w' : World) (p0 p1 p2 p3 p4 p5 p6 p7 p8 p9 p10 p11 p12 p13 p14 p15 : Int) (sw po : ah) (n18 n19 n20 n21 n22 n23 n24 n25 n26 n27 n28 n29 n30 n31 n32 n33 n34 : Int) (st : ah) : Prop := ∃ bs bp, TM w w' bs bp ∧ p0 = 32 ∧ p1 = 1 ∧ p2 = 13 ∧ p3 = 184 ∧ p4 = 0 ∧ p5 = 0 ∧ p6 = 0 ∧ p7 = 0 ∧ p8 = 0 ∧ p9 = 0 ∧ p10 = 0 ∧ p11 = 0 ∧ p12 = 0 ∧ p13 = 0 ∧ p14 = 0 ∧ p15 = 1 ∧ sw = ⟨some ⟨bs, 0, none⟩, 2, 2⟩ ∧ po = ⟨some ⟨bp, 0, none⟩, 1, 1⟩ ∧ n18 = 1024 ∧ n19 = 65535 ∧ n20 = 16 ∧ n21 = 64 ∧ n22 = 128 ∧ n23 = 8 ∧ n24 = 1048576 ∧ n25 = 1500 ∧ n26 = 1500 ∧ n27 = 64 ∧ n28 = 0 ∧ n29 = 2 ∧ n30 = 300 ∧ n31 = 7440 ∧ n32 = 240 ∧ n33 = 60 ∧ n34 = 60 ∧ st = ⟨none, 0, 0⟩
set_option maxHeartbeats 4000000 in
theorem Va (w : World) : kV w fun p0 p1 p2 p3 p4 p5 p6 p7 p8 p9 p10 p11 p12 p13 p14 p15 sw po n18 n19 n20 n21 n22 n23 n24 n25 n26 n27 n28 n29 n30 n31 n32 n33 n34 st w' => ab1 w w' p0 p1 p2 p3 p4 p5 p6 p7 p8 p9 p10 p11 p12 p13 p14 p15 sw po n18 n19 n20 n21 n22 n23 n24 n25 n26 n27 n28 n29 n30 n31 n32 n33 n34 st := by
  apply NU
  refine aN fun a w1 ra ea z1 f1 => ?_
  refine aN fun b0 v0 rb0 eb0 y0 g0 => ?_
  have hb0 : iM 1 eI v0 ⟨some ⟨b0, 0, none⟩, 8, 8⟩ (words 0) := (dn.row (xs := words 0) (f := eI) (n := 1) rb0).sl fJ (by omega)
  refine Bo (NJ 0 hb0) ?_
  rintro q0 q1 q2 q3 q4 q5 q6 q7 q8 q9 q10 q11 q12 q13 q14 q15 u0 ⟨hq, h0⟩
  obtain ⟨rfl, rfl, rfl, rfl, rfl, rfl, rfl, rfl, rfl, rfl, rfl, rfl, rfl, rfl, rfl, rfl⟩ := QV (z := 0) rfl hq
  refine aN fun b1 v1 rb1 eb1 y1 g1 => ?_
  have hb1 : iM 1 eI v1 ⟨some ⟨b1, 0, none⟩, 8, 8⟩ (words 1) := (dn.row (xs := words 1) (f := eI) (n := 1) rb1).sl fJ (by omega)
  refine Bo (NJ 1 hb1) ?_
  rintro q0 q1 q2 q3 q4 q5 q6 q7 q8 q9 q10 q11 q12 q13 q14 q15 u1 ⟨hq, h1⟩
  obtain ⟨rfl, rfl, rfl, rfl, rfl, rfl, rfl, rfl, rfl, rfl, rfl, rfl, rfl, rfl, rfl, rfl⟩ := QV (z := 1) rfl hq
  refine aN fun b2 v2 rb2 eb2 y2 g2 => ?_
  have hb2 : iM 1 eI v2 ⟨some ⟨b2, 0, none⟩, 8, 8⟩ (words 2) := (dn.row (xs := words 2) (f := eI) (n := 1) rb2).sl fJ (by omega)
  refine Bo (NJ 2 hb2) ?_
  rintro q0 q1 q2 q3 q4 q5 q6 q7 q8 q9 q10 q11 q12 q13 q14 q15 u2 ⟨hq, h2⟩
  obtain ⟨rfl, rfl, rfl, rfl, rfl, rfl, rfl, rfl, rfl, rfl, rfl, rfl, rfl, rfl, rfl, rfl⟩ := QV (z := 2) rfl hq
  have g0' := h0.size; have g1' := h1.size; have g2' := h2.size
  refine aN fun bs w5 rs es z5 f5 => aN fun bp w6 rp ep z6 f6 => ?_
  have fa := (((((g0.trans h0).trans g1).trans h1).trans g2).trans h2)
  have ra := (((ra.ext fa).ext f5).ext f6)
  refine aQ ra rfl rfl fun u r t y => ?_
  have r : Row u a (.int .u8 32 :: .int .u8 1 :: .int .u8 13 :: .int .u8 184 :: .int .u8 0 :: .int .u8 0 :: .int .u8 0 :: .int .u8 0 :: .int .u8 0 :: .int .u8 0 :: .int .u8 0 :: .int .u8 0 :: .int .u8 0 :: .int .u8 0 :: .int .u8 0 :: .int .u8 1 :: .slice (some ⟨bs, 0, none⟩) 2 2 :: .slice (some ⟨bp, 0, none⟩) 1 1 :: .int .i64 1024 :: .int .i64 65535 :: .int .i64 16 :: .int .i64 64 :: .int .i64 128 :: .int .i64 8 :: .int .i64 1048576 :: .int .i64 1500 :: .int .i64 1500 :: .int .i64 64 :: .int .i64 0 :: .int .i64 2 :: .int .i64 300 :: .int .i64 7440 :: .int .i64 240 :: .int .i64 60 :: .int .i64 60 :: .slice none 0 0 :: []) := r
  simp only [sx, r.cell]
  have rs : Row u bs _ := (rs.ext f6).fr (t (· = a) rfl) (by omega)
  have rp : Row u bp _ := rp.fr (t (· = a) rfl) (by omega)
  have fz : Ext w u := (((f1.trans fa).trans f5).trans f6).new (t (· = a) rfl) (by intro x hx h; omega)
  exact ⟨bs, bp, ⟨rs, rp, by omega, by omega, by omega, fz⟩, rfl, rfl, rfl, rfl, rfl, rfl, rfl, rfl, rfl, rfl, rfl, rfl, rfl, rfl, rfl, rfl, rfl, rfl, rfl, rfl, rfl, rfl, rfl, rfl, rfl, rfl, rfl, rfl, rfl, rfl, rfl, rfl, rfl, rfl, rfl, rfl⟩
end Go.Proofs.CN
namespace Go.Proofs.CN
open Gp
set_option maxRecDepth 100000
theorem Xb : Zk (H_ 0) ((2 : Nat) : Int) ((1 : Nat) : Int) ((0 : Nat) : Int) 1024 65535 16 64 128 8 1048576 1500 1500 64 0 2 300 7440 240 60 60 2 [H_ 1, H_ 2] [3325256705] [] := ⟨by decide, by decide, by decide⟩
theorem WV : Aj (H_ 0) [H_ 1, H_ 2] [3325256705] [] 2 16 := ⟨by decide, by decide, by decide, by decide, fun k hk => by simp [cnt]⟩
theorem TM.sl {w w' : World} {bs bp : Nat} (h : TM w w' bs bp) : iM 16 e16 w' ⟨some ⟨bs, 0, none⟩, 2, 2⟩ [H_ 1, H_ 2] := (dn.row (xs := [H_ 1, H_ 2]) (f := e16) (n := 16) h.rs).sl lZ (by omega)
theorem TM.pl {w w' : World} {bs bp : Nat} (h : TM w w' bs bp) : iM 1 eI w' ⟨some ⟨bp, 0, none⟩, 1, 1⟩ [3325256705] := (dn.row (xs := [(3325256705 : Int)]) (f := eI) (n := 1) h.rp).sl fJ (by omega)
end Go.Proofs.CN
namespace Go.Proofs.CN
end Go.Proofs.CN
end
section
namespace Go.Proofs.PM
open Gp Gp.V4 Go.Proofs Go.Proofs.CN
open Gp.Bind (In64)
set_option maxRecDepth 100000
set_option maxHeartbeats 2000000
theorem YE {w : World} {cl no : List UInt8} {d0 d1 d2 d3 d4 d5 d6 d7 d8 d9 d10 d11 d12 d13 d14 d15 d16 d17 d18 d19 d20 d21 d22 d23 d24 d25 d26 d27 d28 d29 d30 d31 d32 : Int} (hc : cl.length = 16) (hno : no.length = 12) (hcl : [d1, d2, d3, d4, d5, d6, d7, d8, d9, d10, d11, d12, d13, d14, d15, d16] = bi cl) (hd : [d17, d18, d19, d20, d21, d22, d23, d24, d25, d26, d27, d28] = bi no) (hp : PA.may ⟨d0, d29, d30, d31, d32⟩) :
    uJ d0 d1 d2 d3 d4 d5 d6 d7 d8 d9 d10 d11 d12 d13 d14 d15 d16 d17 d18 d19 d20 d21 d22 d23 d24 d25 d26 d27 d28 d29 d30 d31 d32 w fun s e w' => Ext w w' ∧ e = 0 ∧ Buf w' s (bytesV (N9 cl no ⟨d0, d29, d30, d31, d32⟩)) ∧ ∀ b, ah.at s b -> w.heap.size <= b := by
  apply QY
  refine aN fun a w1 r1 e1 z1 f1 => ?_
  have rd : ∀ W (Q : _), Row W a (dw d0 d1 d2 d3 d4 d5 d6 d7 d8 d9 d10 d11 d12 d13 d14 d15 d16 d17 d18 d19 d20 d21 d22 d23 d24 d25 d26 d27 d28 d29 d30 d31 d32) -> Q d0 d1 d2 d3 d4 d5 d6 d7 d8 d9 d10 d11 d12 d13 d14 d15 d16 d17 d18 d19 d20 d21 d22 d23 d24 d25 d26 d27 d28 d29 d30 d31 d32 -> fH W ⟨a, 0, none⟩ Q := by
    intro W Q hr hq
    simp only [sx, hr.cell]
    exact hq
  refine rd _ _ r1 ?_
  refine Ci VK ?_
  rintro _ w2 ⟨rfl, f2⟩
  rw [decide_eq_true hp, Bool.not_true, cond_false]
  have r2 := r1.ext f2
  refine aP (k := .int .i64) (i := 0) (x := d0) r2 rfl ?_
  refine aN fun b w3 r3 e3 z3 f3 => ?_
  refine wL (GV (l := []) (fs := [(2, 1, ()), (1, 1, ()), (0, 2, ()), (d0, 4, ())]) Buf.nil (FZ r3 rfl rfl) (by simp) (by simp)) ?_
  rintro s4 w4 ⟨b4, f4, n4⟩
  have r4 := ((r2.ext f3).ext f4).drew
  refine rd _ _ r4 ?_
  rw [iC]
  refine AX ?_
  have hL : bytesV cl = dF d1 d2 d3 d4 d5 d6 d7 d8 d9 d10 d11 d12 d13 d14 d15 d16 := by rw [vN, <- hcl]; rfl
  have hs : mF w4.drew ⟨some ⟨a, 0 + 1, none⟩, 16, 16⟩ cl := Gn (o := 1) r4 (A := [.int .i64 d0]) (C := [.int .u8 d17, .int .u8 d18, .int .u8 d19, .int .u8 d20, .int .u8 d21, .int .u8 d22, .int .u8 d23, .int .u8 d24, .int .u8 d25, .int .u8 d26, .int .u8 d27, .int .u8 d28, .int .i64 d29, .int .i64 d30, .int .i64 d31, .int .i64 d32]) (by rw [hL]; rfl) rfl hc.symm
  have l4 := sF [(2, 1, ()), (1, 1, ()), (0, 2, ()), (d0, 4, ())] []
  simp only [List.length_cons, List.length_nil] at l4
  have x4 : Ext w w4.drew := (((f1.trans f2).trans f3).trans f4).trans (Ext.drew w4)
  have x3 : Ext w w3 := (f1.trans f2).trans f3
  refine qK (b4.ext (Ext.drew w4)) hs (by omega) fun s5 w5 b5 f5 n5 _ => ?_
  have na : ¬ ah.at s4 a := fun h => by have := n4 a h; have := (r2.ext f3).lt; omega
  have r5 := r4.fr f5 na
  have hck : ∀ R : Prop, R -> Zm (dw d0 d1 d2 d3 d4 d5 d6 d7 d8 d9 d10 d11 d12 d13 d14 d15 d16 d17 d18 d19 d20 d21 d22 d23 d24 d25 d26 d27 d28 d29 d30 d31 d32) w5 ⟨a, 0, none⟩ 0 R := by
    intro R hR
    simp only [sx, yZ, Dq, r5.cell, true_and]
    exact hR
  refine hck _ ?_
  have x5 : Ext w w5 := x4.new f5 fun y hy h => by have := n4 y h; have := x3.size; omega
  refine Ap (V7 (w0 := w) b5 x5 (fun y hy => ?_) (by rw [List.length_append]; omega) hno hd hp) ?_
  · rcases n5 y hy with h | h
    · have := n4 y h; have := x3.size; omega
    · have := x4.size; omega
  rintro s6 w6 ⟨b6, f6, n6⟩
  exact ⟨f6, by trivial, b6, n6⟩
theorem KA {w : World} {sw ad lf po ou : Int} (had : In64 ad) (hp : PA.may ⟨lf, 17, po, ou, 3325256705⟩) :
    mW sw ad lf po ou w fun s w' => Ext w w' ∧ Buf w' s (bytesV (N9 (mapped ad) (List.replicate 12 0) ⟨lf, 17, po, ou, 3325256705⟩)) ∧ ∀ b, ah.at s b -> w.heap.size <= b := by
  apply QF
  refine IG had fun x0 x1 x2 x3 x4 x5 x6 x7 x8 x9 x10 x11 x12 x13 x14 x15 w1 hx f1 => ?_
  refine Qd (YE (cl := mapped ad) (no := List.replicate 12 0) (wz ad) (by simp) hx (by rfl) hp) ?_
  rintro s e w2 ⟨f2, _, b2, n2⟩
  exact ⟨f1.trans f2, b2, fun b hb => by have := n2 b hb; have := f1.size; omega⟩
theorem Qs {w : World} {s : ah} {l : List UInt8} (hs : mF w s l) (hl : l.length = 60) (hp : fO l 129 = 0) {K : Int -> Int -> Int -> Int -> Int -> Int -> Int -> Int -> Int -> Int -> Int -> Int -> Int -> Int -> Int -> Int -> Int -> Int -> Int -> Int -> Int -> Int -> Int -> Int -> Int -> Int -> Int -> Int -> Int -> Int -> Int -> Int -> Int -> Int -> Int -> Int -> World -> Prop}
    (h : ∀ x0 x1 x2 x3 x4 x5 x6 x7 x8 x9 x10 x11 x12 x13 x14 x15 x16 x17 x18 x19 x20 x21 x22 x23 x24 x25 x26 x27 x28 x29 x30 x31 x32 x33 x34 w', Ext w w' -> x0 = (num l 3 1 : Int) -> x1 = (num l 8 4 : Int) -> x2 = (num l 4 4 : Int) -> K x0 x1 x2 x3 x4 x5 x6 x7 x8 x9 x10 x11 x12 x13 x14 x15 x16 x17 x18 x19 x20 x21 x22 x23 x24 x25 x26 x27 x28 x29 x30 x31 x32 x33 x34 0 w') : sJ s w K := by
  apply SK
  refine aN fun a w1 r1 e1 z1 f1 => ?_
  refine VX (hs.ext f1) (by omega) fun d0 d1 d2 d3 d4 d5 d6 d7 d8 d9 d10 d11 d12 d13 d14 d15 d16 d17 d18 d19 d20 d21 d22 d23 d24 d25 d26 d27 d28 d29 d30 d31 d32 w2 f2 hq => ?_
  rw [hp] at hq ⊢
  obtain ⟨q0, qc, qn, q29, q30, q31, q32⟩ := hq rfl
  refine aN fun b w3 r3 e3 z3 f3 => ?_
  refine aQ r3 rfl rfl fun w4 r4 f4' z4 => ?_
  have x4 : Ext w2 w4 := f3.new (f4' (· = b) rfl) fun y hy e => by omega
  simp only [show ((0 : Int) != 0) = false from rfl, cond_false, iC]
  refine Hw (dF 0 0 0 0 0 0 0 0 0 0 0 0 0 0 0 0) w4 (dw d0 d1 d2 d3 d4 d5 d6 d7 d8 d9 d10 d11 d12 d13 d14 d15 d16 d17 d18 d19 d20 d21 d22 d23 d24 d25 d26 d27 d28 d29 d30 d31 d32) 1 0 r4 (by intro v hv; exact List.all_eq_true.1 (by rfl : (dF 0 0 0 0 0 0 0 0 0 0 0 0 0 0 0 0).all bK = true) v hv) (by show 17 <= 33; omega) fun w5 r5 f5' z5 => ?_
  have f5 : aF w4 w5 (· = b) := f5' _ rfl
  have r5 : Row w5 b (dw d0 0 0 0 0 0 0 0 0 0 0 0 0 0 0 0 0 d17 d18 d19 d20 d21 d22 d23 d24 d25 d26 d27 d28 d29 d30 d31 d32) := r5
  have x5 : Ext w2 w5 := x4.new f5 fun y hy e => by omega
  have hs5 := (hs.ext f1).ext (f2.trans x5)
  refine IQ (U8 hs5 (by omega) 8 4) ?_
  rintro n e w6 ⟨rfl, hg⟩
  have hn := Pn (at_ := 8) (k := 4) (by omega) (by omega) hg
  subst hn
  refine byte_at hs5 (i := 3) (by omega) fun ad hc _ => ?_
  have hcd : w6.drew.cell? ad = some (.int .u8 (l[3].toNat : Int)) := hc
  have r6 := r5.drew
  simp only [sx, hcd, r6.cell]
  have hb3 := PZ (l := l) (i := 3) (by omega)
  have h255 : l[3].toNat < 256 := l[3].toNat_lt
  rw [wrap_i64 (by omega) (by omega), <- hb3]
  have r7 : Row w6.drew a _ := (r1.ext (f2.trans x5)).drew
  refine aQ r7 rfl rfl fun w7 r7 f7' z7 => ?_
  simp only [sx, r7.cell]
  exact h _ _ _ _ _ _ _ _ _ _ _ _ _ _ _ _ _ _ _ _ _ _ _ _ _ _ _ _ _ _ _ _ _ _ _ w7 ((((f1.trans f2).trans x5).trans (Ext.drew w6)).new (f7' (· = a) rfl) fun y hy e => by omega) rfl rfl q0
end Go.Proofs.PM
end
section
namespace Go.Proofs.PS
open Gp Go.Proofs Go.Proofs.EN Go.Proofs.CN Go.Proofs.PM
open Gp.V4 (fitsP sizeOk num)
open Gp.Bind (Bnd Slots live GoodB freeN getS In64)
set_option maxRecDepth 100000
set_option maxHeartbeats 2000000
variable {c : Cf} {v : SV} {w : World} {A : SA}
theorem Lr : ∀ (S : Slots) (k : Nat), ((live k S).map (·.1)).Nodup ∧ ∀ x ∈ live k S, (k : Int) <= x.1
  | [], k => by simp [live]
  | none :: r, k => by
    obtain ⟨h1, h2⟩ := Lr r (k + 1)
    exact ⟨h1, fun x hx => by have := h2 x hx; omega⟩
  | some b :: r, k => by
    obtain ⟨h1, h2⟩ := Lr r (k + 1)
    refine ⟨?_, fun x hx => ?_⟩
    · show ((k : Int) :: (live (k + 1) r).map (·.1)).Nodup
      rw [List.nodup_cons]
      refine ⟨fun hm => ?_, h1⟩
      obtain ⟨y, hy, he⟩ := List.mem_map.1 hm
      have := h2 y hy
      omega
    · rcases List.mem_cons.1 hx with rfl | hx
      · exact Int.le_refl _
      · have := h2 x hx; omega
theorem Good.cnt {Z : Bnd -> Prop} {P : List Int} (g : Good c Z v P) (h : Srv w A c v) (hZ : ∀ b, ¬ Z b) : (live 0 v.e.S).length = v.L.length := by
  refine len_eq (f := (·.2)) (g := bF.b) (vI (Lr v.e.S 0).1 fun x hx y hy e => ?_) (vI h.bn fun x hx y hy e => g.kk x hx y hy (by unfold bF.k; rw [e])) fun b => ?_
  · obtain ⟨x1, x2⟩ := x
    obtain ⟨y1, y2⟩ := y
    obtain ⟨i, hi, rfl⟩ := Gp.Bind.lC.1 hx
    obtain ⟨j, hj, rfl⟩ := Gp.Bind.lC.1 hy
    simp only at e
    subst e
    rw [I9 h.en.db.good hi hj rfl]
  · rw [List.mem_map, List.mem_map]
    constructor
    · rintro ⟨⟨x1, x2⟩, hx, rfl⟩
      obtain ⟨i, hi, _⟩ := Gp.Bind.lC.1 hx
      rcases g.ex i x2 hi with h | h
      · exact h
      · exact absurd h (hZ _)
    · rintro ⟨x, hx, rfl⟩
      obtain ⟨_, i, hi⟩ := g.eb x hx
      exact ⟨(((0 + i : Nat) : Int), x.b), Gp.Bind.lC.2 ⟨i, hi, rfl⟩, rfl⟩
structure aaE (c : Cf) (v : SV) (most : Int) : Prop where
  pl : c.pl = [3325256705]
  sw : c.sw.len = 2
  q : c.q = 16
  nb : c.nb = 64
  L : v.L = []
  now : v.now = 0
  nx : v.nx = 0
  most : v.most = most
  tn : v.tn = 0
  e : v.e = e0 2 64 128
theorem Sv {w : World} {K : Option Addr -> Int -> Option Addr -> Int -> World -> Prop}
    (h : ∀ w' c A v, Ext w w' -> Srv w' A c v -> Good c (fun _ => False) v [] -> aaE c v 4 -> (∀ b, dP A v.L b -> w.heap.size <= b) -> K (some ⟨A.a.x, 0, none⟩) 0 (some ⟨A.s, 0, none⟩) 0 w') :
    kV w fun p0 p1 p2 p3 p4 p5 p6 p7 p8 p9 p10 p11 p12 p13 p14 p15 sw po n18 n19 n20 n21 n22 n23 n24 n25 n26 n27 n28 n29 n30 n31 n32 n33 n34 st w1 => wu p0 p1 p2 p3 p4 p5 p6 p7 p8 p9 p10 p11 p12 p13 p14 p15 sw po n18 n19 n20 n21 n22 n23 n24 n25 n26 n27 n28 n29 n30 n31 n32 n33 n34 st w1 fun r38 r39 w2 => qC r38 4 w2 fun r41 r42 w3 => K r38 r39 r41 r42 w3 := by
  refine N8 (Va w) ?_
  rintro p0 p1 p2 p3 p4 p5 p6 p7 p8 p9 p10 p11 p12 p13 p14 p15 sw po n18 n19 n20 n21 n22 n23 n24 n25 n26 n27 n28 n29 n30 n31 n32 n33 n34 st w1 ⟨bs, bp, hB, rfl, rfl, rfl, rfl, rfl, rfl, rfl, rfl, rfl, rfl, rfl, rfl, rfl, rfl, rfl, rfl, rfl, rfl, rfl, rfl, rfl, rfl, rfl, rfl, rfl, rfl, rfl, rfl, rfl, rfl, rfl, rfl, rfl, rfl, rfl, rfl⟩
  have hz : ∀ {W : World}, iM 7 e7 W ⟨none, 0, 0⟩ ([] : List T7) := fun {W} => iM.nil
  refine Zq hB.sl hB.pl hz (by simp) (by simp) (by simp) (fun r w' _ hr hc => absurd (ZJ hc (.inr ⟨Xb, .inr ⟨WV, rfl⟩⟩)) hr) fun hOk hfine w2 ea e f2 hE hI hS hM hown => ?_
  have he : e = e0 2 64 128 := by
    have hM : Maps _ (e0 2 64 128) [] e := hM
    generalize hq : ([] : List Bnd) = q at hM
    cases hM with
    | nil => rfl
    | no => simp at hq
    | yes => simp at hq
  subst he
  obtain ⟨c, hcdef⟩ : ∃ c : Cf, c = ⟨fG 32 1 13 184 0 0 0 0 0 0 0 0 0 0 0 1 ⟨some ⟨bs, 0, none⟩, 2, 2⟩ ⟨some ⟨bp, 0, none⟩, 1, 1⟩ 1024 65535 16 64 128 8 1048576 1500 1500 64 0 2 300 7440 240 60 60 ⟨none, 0, 0⟩, ⟨some ⟨bs, 0, none⟩, 2, 2⟩, [3325256705], 1024, 65535, 16, 64, 128⟩ := ⟨_, rfl⟩
  rw [<- hcdef] at hE hI
  refine Rn (PS.LP (Z := fun _ => False) hE hI hS (by show 0 <= 2 ^ 40; omega) (n := 4) (by omega) (by omega) fun j b hj => ?_) ?_
  · have hj : (List.replicate 64 (none : Option Bnd))[j]? = some (some b) := hj
    rw [List.getElem?_replicate] at hj
    split at hj <;> simp at hj
  rintro p r w3 ⟨rfl, f3, A, v, rfl, hAa, hSv, hG, hL, hnow, hnx, hmost, hve, htn, hownS⟩
  have := h w3 c A v ((hB.ext.trans f2).trans f3) hSv hG ⟨by rw [hcdef], by rw [hcdef], by rw [hcdef], by rw [hcdef], hL, hnow, hnx, hmost, htn, hve⟩ fun b hb => ?_
  · rw [hAa] at this
    exact this
  · have z1 := hB.ext.size
    rcases hownS b hb with ⟨k, h⟩ | h
    · have := hown k b h; omega
    · have := f2.size; omega
end Go.Proofs.PS
end
section
namespace Go.Proofs.PS
open Gp Go.Proofs Go.Proofs.EN Go.Proofs.CN Go.Proofs.PM
open Gp.V4 (fitsP sizeOk num)
open Gp.Bind (Bnd Slots live GoodB freeN getS In64)
set_option maxRecDepth 100000
set_option maxHeartbeats 2000000
variable {c : Cf} {v : SV} {w : World} {A : SA}
def qP (lf po ou : Int) : PA := ⟨lf, 17, po, ou, 3325256705⟩
def qB (sw po ou : Int) : Bnd := ⟨sw, 17, 167772161, po, 17, 3325256705, ou, true⟩
def zL : List UInt8 := List.replicate 12 0
def qL (lf po ou : Int) : List UInt8 := N9 (mapped 167772161) zL (qP lf po ou)
theorem aaQ {n k m : Int} (hk : sizeOk k) (hm : (256 : Int) ^ k.toNat = m) (h0 : 0 <= n) (h1 : n < m) : fitsP n k := ⟨hk, h0, by rw [hm]; exact h1⟩
theorem Yi {n : Int} (h0 : 0 <= n) (h1 : n < 4294967296) : fitsP n 4 := aaQ ⟨by omega, by omega⟩ (by decide) h0 h1
theorem aaG {n : Int} (h0 : 0 <= n) (h1 : n < 65536) : fitsP n 2 := aaQ ⟨by omega, by omega⟩ (by decide) h0 h1
theorem aaA {n : Int} (h0 : 0 <= n) (h1 : n < 256) : fitsP n 1 := aaQ ⟨by omega, by omega⟩ (by decide) h0 h1
theorem OE {l : List UInt8} {k : Int} (h : fO l k = 0) : l.length = 60 := by
  unfold fO at h
  split at h
  · omega
  split at h <;> omega
theorem Pg {lf po ou : Int} (h1 : 0 <= lf ∧ lf < 4294967296) (h2 : 0 <= po ∧ po < 65536) (h3 : 0 <= ou ∧ ou < 65536) : (qP lf po ou).may :=
  ⟨Yi h1.1 h1.2, aaA (n := 17) (by decide) (by decide), aaG h2.1 h2.2, aaG h3.1 h3.2, Yi (n := 3325256705) (by decide) (by decide)⟩
theorem RX {lf po ou : Int} (h : (qP lf po ou).may) : fO (qL lf po ou) 1 = 0 ∧ uQ (qL lf po ou) = qP lf po ou ∧ QZ (qL lf po ou) = mapped 167772161 ∧ TS (qL lf po ou) = zL :=
  U9 (wz _) (by simp [zL]) h
theorem Dx {r ep lf po ou : Int} (hr : 0 <= r ∧ r < 256) (he : 0 <= ep ∧ ep < 4294967296) (h : (qP lf po ou).may) : DJ r ep (qP lf po ou) := ⟨h, aaA hr.1 hr.2, Yi he.1 he.2⟩
theorem SI : In64 167772161 := by unfold In64; omega
theorem OY (h : Srv w A c v) (g : Good c (fun _ => False) v []) (f : aaE c v 4) {sw lf po ou : Int} (hsw : sw = 0 ∨ sw = 1) (h1 : 0 < lf ∧ lf <= 65535) (h2 : 0 <= po ∧ po < 65536) (h3 : 0 <= ou ∧ ou < 65536) {s : ah} (hs : mF w s (qL lf po ou)) {K : ah -> Int -> World -> Prop}
    (hK : ∀ s' w' A' v' n id, Out c (fun _ => False) w A v w' A' v' -> v'.L = [⟨n, qB sw po ou, lf, id⟩] -> Buf w' s' (bytesV (Fj 0 0 zL (qP lf po ou))) -> (∀ b, ah.at s' b -> w.heap.size <= b ∧ ¬ dP A' v'.L b) -> K s' 0 w') :
    dW (some ⟨A.s, 0, none⟩) sw 167772161 s w K := by
  have hm := Pg (lf := lf) (po := po) (ou := ou) (by omega) h2 h3
  obtain ⟨q1, q2, q3, q4⟩ := RX hm
  refine Rq h g (by rw [f.nx]; omega) (by rw [f.tn]; omega) (by rw [f.most]; omega) SI hs (by rw [OE q1]; omega) fun s' e bs w' A' v' ho hr hb hn => ?_
  have hL := f.L
  have hlf : (uQ (qL lf po ou)).lf = lf := by rw [q2]; rfl
  have hB : Xf (qL lf po ou) sw 167772161 = qB sw po ou := by unfold Xf; rw [q2]; rfl
  have hmap : xX c v.e (qB sw po ou) = 0 := by
    have he := f.e
    have hmay : NP c (qB sw po ou) := by
      refine ⟨.inr (.inr rfl), (by decide : iG 167772161), ?_, ⟨h2.1, by show po <= 65535; omega⟩, ⟨h3.1, by show ou <= 65535; omega⟩, rfl, ?_⟩
      · rw [f.pl]; exact List.mem_singleton.2 rfl
      · unfold Xo; rw [f.sw]; show 0 <= sw ∧ sw < 2; omega
    unfold xX
    rw [if_neg (not_not_intro hmay), he, if_neg (by simp [e0]), if_neg, if_neg]
    · show ¬ ((live 0 (List.replicate 64 none)).length : Int) >= c.nb
      rw [mP, f.nb]; simp
    · rw [f.q]
      have hc : QN.yC (e0 2 64 128).Q (qB sw po ou).sw = 0 := by
        rcases hsw with rfl | rfl
        · exact (by decide : QN.yC (List.replicate 2 0) 0 = 0)
        · exact (by decide : QN.yC (List.replicate 2 0) 1 = 0)
      rw [hc]; decide
  generalize hl : qL lf po ou = l at *
  cases hr with
  | bad hne => exact absurd q1 hne
  | far _ hne => exact absurd q3 hne
  | @ans r e0' e31 e32 _ _ _ ha =>
    rw [hlf, hB] at ha
    cases ha with
    | none h0 => omega
    | drop h0 => omega
    | ext _ hx => rw [hL] at hx; cases hx
    | renew _ hx => rw [hL] at hx; cases hx
    | full _ _ hf => rw [hL, f.most] at hf; simp at hf
    | map _ _ _ hne => exact absurd hmap hne
    | @add n id i _ _ _ _ _ hL' hfree hS' =>
      have ht : kG l 0 (min lf 86400) (qB sw po ou).opo (qB sw po ou).oad = qP lf po ou := by
        unfold kG
        rw [q2, if_pos rfl]
        show (⟨min lf 86400, 17, po, ou, 3325256705⟩ : PA) = ⟨lf, 17, po, ou, 3325256705⟩
        rw [Int.min_eq_left (by omega)]
      have hnow : ((v.now % 4294967296 : Nat) : Int) = 0 := by rw [f.now]; rfl
      rw [ht, hnow, if_pos (Dx (by omega) (by omega) hm), q4] at hb
      have := hK s' w' A' v' n id ho (by rw [hL', f.L, f.now, Int.min_eq_left (by omega)]; simp) hb hn
      rw [ht, hnow, if_pos (Dx (by omega) (by omega) hm)]
      exact this
theorem Tq (h : Srv w A c v) (g : Good c (fun _ => False) v []) (hnx : 0 <= v.nx ∧ v.nx < 8192) (ht : v.tn < 2 ^ 62) (hmo : v.most <= 4096) {sw lf po ou : Int} (h1 : 0 < lf ∧ lf <= 65535) (h2 : 0 <= po ∧ po < 65536) (h3 : 0 <= ou ∧ ou < 65536) {n : Nat} {un id : Int} (hL : v.L = [⟨n, qB sw po ou, un, id⟩]) (hnow : v.now < 4294967296)
    {s : ah} (hs : mF w s (qL lf po ou)) {K : ah -> Int -> World -> Prop}
    (hK : ∀ s' w' A' v', Out c (fun _ => False) w A v w' A' v' -> v'.L = [⟨n, qB sw po ou, v.now + lf, id⟩] -> Buf w' s' (bytesV (Fj 0 v.now zL (qP lf po ou))) -> (∀ b, ah.at s' b -> w.heap.size <= b ∧ ¬ dP A' v'.L b) -> K s' 0 w') :
    dW (some ⟨A.s, 0, none⟩) sw 167772161 s w K := by
  have hm := Pg (lf := lf) (po := po) (ou := ou) (by omega) h2 h3
  obtain ⟨q1, q2, q3, q4⟩ := RX hm
  refine Rq h g hnx ht hmo SI hs (by rw [OE q1]; omega) fun s' e bs w' A' v' ho hr hb hn => ?_
  have hlf : (uQ (qL lf po ou)).lf = lf := by rw [q2]; rfl
  have hB : Xf (qL lf po ou) sw 167772161 = qB sw po ou := by unfold Xf; rw [q2]; rfl
  have hone : ∀ x ∈ v.L, x = ⟨n, qB sw po ou, un, id⟩ := fun x hx => by rw [hL] at hx; exact List.mem_singleton.1 hx
  have hmem : (⟨n, qB sw po ou, un, id⟩ : bF) ∈ v.L := by rw [hL]; exact List.mem_singleton.2 rfl
  generalize hl : qL lf po ou = l at *
  cases hr with
  | bad hne => exact absurd q1 hne
  | far _ hne => exact absurd q3 hne
  | @ans r e0' e31 e32 _ _ _ ha =>
    rw [hlf, hB] at ha
    cases ha with
    | none h0 => omega
    | drop h0 => omega
    | ext _ hx _ _ hne =>
      rw [hone _ hx] at hne
      exact absurd ⟨rfl, rfl, rfl⟩ hne
    | full _ hk => exact absurd rfl (hk _ hmem)
    | map _ hk => exact absurd rfl (hk _ hmem)
    | add _ hk => exact absurd rfl (hk _ hmem)
    | @renew x _ _ hx hk hne hL' hE' =>
      obtain rfl := hone _ hx
      have ht : kG l 0 (min lf 86400) (qB sw po ou).opo (qB sw po ou).oad = qP lf po ou := by
        unfold kG
        rw [q2, if_pos rfl]
        show (⟨min lf 86400, 17, po, ou, 3325256705⟩ : PA) = ⟨lf, 17, po, ou, 3325256705⟩
        rw [Int.min_eq_left (by omega)]
      have hnow : ((v.now % 4294967296 : Nat) : Int) = (v.now : Int) := by rw [Nat.mod_eq_of_lt hnow]
      have hap := Dx (r := 0) (ep := (v.now : Int)) (by omega) (by omega) hm
      rw [hnow, ht, if_pos hap, q4] at hb
      have := hK s' w' A' v' ho (by rw [hL', hL, Int.min_eq_left (by omega)]; unfold yX; rw [List.map_cons, List.map_nil, if_pos rfl]) hb hn
      rw [hnow, ht, if_pos hap]
      exact this
end Go.Proofs.PS
end
section
namespace Go.Proofs.PS
open Gp Go.Proofs Go.Proofs.EN Go.Proofs.CN Go.Proofs.PM
open Gp.V4 (fitsP sizeOk num)
open Gp.Bind (Bnd Slots live GoodB freeN getS In64)
set_option maxRecDepth 100000
set_option maxHeartbeats 2000000
variable {c : Cf} {v : SV} {w : World} {A : SA}
theorem J_ (h : Srv w A c v) (g : Good c (fun _ => False) v []) {K : Int -> ah -> ah -> Int -> Int -> Int -> ah -> World -> Prop} (hK : ∀ x0 bs ss x3 x4 x5 sl w', Ext w w' -> bs.len = v.L.length -> K x0 bs ss x3 x4 x5 sl w') :
    fC (some ⟨A.a.x, 0, none⟩) w K := by
  have hE := h.en
  have hb1 := hE.cf.b1
  have hs1 := hE.cf.s1
  have hl := hE.db.len
  refine ZC hE ⟨by rw [hl]; omega, by rw [hE.se.len]; omega⟩ fun bs ss w' f hbs _ _ _ => hK _ _ _ _ _ _ _ _ f ?_
  rw [(hbs.sl O6 (by omega)).len, List.length_map, g.cnt h fun _ hz => hz]
theorem Kt (h : Srv w A c v) (g : Good c (fun _ => False) v []) {x : bF} (hL : v.L = [x]) (hun : x.un <= 1099511627776) {a : Int} (ha : (v.now : Int) <= a ∧ a <= 1099511627776) {K : Int -> World -> Prop}
    (hK : ∀ n w' A' v', aF w w' (dP A v.L) -> Srv w' A' c v' -> Good c (fun _ => False) v' [] -> A'.s = A.s -> A'.a = A.a -> (∀ b, dP A' v'.L b -> dP A v.L b ∨ w.heap.size <= b) -> v'.now = a.toNat -> v'.tn = v.tn -> v'.most = v.most -> v'.nx = v.nx ->
      (x.un <= a -> n = 1 ∧ v'.L = []) -> (a < x.un -> n = 0 ∧ v'.L = [x]) -> K n w') : bY (some ⟨A.s, 0, none⟩) a w K := by
  refine zT (UL h g (fun y hy => by rw [hL] at hy; rw [List.mem_singleton.1 hy]; exact hun) a (T := a.toNat) (by omega)) ?_
  rintro n w' ⟨f, A', v', hS, hG, hs, ha', hsub, hn, hm, ht, hmo, hx, hc⟩
  have hTa : ((a.toNat : Nat) : Int) = a := Int.toNat_of_nonneg (by omega)
  rw [hTa] at hm
  refine hK n w' A' v' f hS hG hs ha' hsub hn ht hmo hx (fun hle => ?_) fun hlt => ?_
  · have : v'.L = [] := List.eq_nil_iff_forall_not_mem.2 fun y hy => by
      have := (hm y).1 hy
      rw [hL, List.mem_singleton] at this
      rw [this.1] at this
      omega
    rw [hc, this, hL]
    exact ⟨rfl, rfl⟩
  · have hall : ∀ y ∈ v'.L, y = x := fun y hy => by
      have := ((hm y).1 hy).1
      rw [hL] at this
      exact List.mem_singleton.1 this
    have hin : x ∈ v'.L := (hm x).2 ⟨by rw [hL]; exact List.mem_singleton.2 rfl, hlt⟩
    have : v'.L = [x] := by
      cases hl : v'.L with
      | nil => rw [hl] at hin; cases hin
      | cons y l =>
        have hbn := hS.bn
        rw [hl] at hall hbn
        obtain rfl := hall y List.mem_cons_self
        cases l with
        | nil => rfl
        | cons z l =>
          obtain rfl := hall z (by simp)
          simp at hbn
    rw [hc, this, hL]
    exact ⟨rfl, rfl⟩
theorem LJ {w : World} {s : ah} {r ep : Int} {p : PA} (hs : mF w s (Fj r ep zL p)) (hp : DJ r ep p) {K : Int -> Int -> Int -> Int -> Int -> Int -> Int -> Int -> Int -> Int -> Int -> Int -> Int -> Int -> Int -> Int -> Int -> Int -> Int -> Int -> Int -> Int -> Int -> Int -> Int -> Int -> Int -> Int -> Int -> Int -> Int -> Int -> Int -> Int -> Int -> Int -> World -> Prop}
    (h : ∀ x0 x1 x2 x3 x4 x5 x6 x7 x8 x9 x10 x11 x12 x13 x14 x15 x16 x17 x18 x19 x20 x21 x22 x23 x24 x25 x26 x27 x28 x29 x30 x31 x32 x33 x34 w', Ext w w' -> x0 = r -> x1 = ep -> x2 = p.lf -> K x0 x1 x2 x3 x4 x5 x6 x7 x8 x9 x10 x11 x12 x13 x14 x15 x16 x17 x18 x19 x20 x21 x22 x23 x24 x25 x26 x27 x28 x29 x30 x31 x32 x33 x34 0 w') : sJ s w K := by
  obtain ⟨h1, h2, h3, h4, h5⟩ := Xd (no := zL) (by simp [zL]) hp
  refine Qs hs h5 h1 fun x0 x1 x2 x3 x4 x5 x6 x7 x8 x9 x10 x11 x12 x13 x14 x15 x16 x17 x18 x19 x20 x21 x22 x23 x24 x25 x26 x27 x28 x29 x30 x31 x32 x33 x34 w' f e0 e1 e2 => h x0 x1 x2 x3 x4 x5 x6 x7 x8 x9 x10 x11 x12 x13 x14 x15 x16 x17 x18 x19 x20 x21 x22 x23 x24 x25 x26 x27 x28 x29 x30 x31 x32 x33 x34 w' f ?_ ?_ ?_
  · rw [e0, h3, Int.toNat_of_nonneg hp.2.1.2.1]
  · rw [e1, h4, Int.toNat_of_nonneg hp.2.2.2.1]
  · have : (uQ (Fj r ep zL p)).lf = p.lf := by rw [h2]
    rw [e2]; exact this
theorem Q8 (w : World) : lK w fun r w' => r = true ∧ Ext w w' := by
  apply LC
  refine Sv fun w1 c A v f1 hS hG hF hown => ?_
  have hnb : ∀ {B : SA} {L : List bF}, (∀ b, dP B L b -> w.heap.size <= b) -> ∀ y, y < w.heap.size -> ¬ dP B L y := fun hB y hy h => by have := hB y h; omega
  intro J
  have hJ : J false := by
    simp -zeta only [J, cond_false]
    have hp := Pg (lf := 60) (po := 80) (ou := 8080) (by omega) (by omega) (by omega)
    refine zD (KA SI hp) ?_
    rintro s w2 ⟨f2, b2, n2⟩
    have hS2 := hS.ext f2
    refine OY hS2 hG hF (sw := 1) (lf := 60) (po := 80) (ou := 8080) (.inr rfl) (by omega) (by omega) (by omega) (mF.vZ b2) fun s' w3 A' v' n id ho hL' hb3 hn3 => ?_
    have x3 : Ext w w3 := (f1.trans f2).new ho.fr (hnb hown)
    have hA' : ∀ b, dP A' v'.L b -> w.heap.size <= b := fun b hb => by
      rcases ho.sub b hb with h | h
      · exact hown b h
      · have := (f1.trans f2).size; omega
    have hap := Dx (r := 0) (ep := 0) (by omega) (by omega) hp
    refine LJ (mF.vZ hb3) hap fun t0 t1 t2 t3 t4 t5 t6 t7 t8 t9 t10 t11 t12 t13 t14 t15 t16 t17 t18 t19 t20 t21 t22 t23 t24 t25 t26 t27 t28 t29 t30 t31 t32 t33 t34 w4 f4 e0 e1 e2 => ?_
    subst e0 e1 e2
    refine aN fun a w5 r5 e5 z5 f5 => ?_
    refine aQ r5 rfl rfl fun w6 r6 f6' z6 => ?_
    have x6 : Ext w3 w6 := (f4.trans f5).new (f6' (· = a) rfl) fun y hy e => by have := f4.size; omega
    intro J2
    have hJ2 : ∀ q W, q = true -> Ext w W -> J2 q W := fun q W hq hW => ⟨hq, hW⟩
    clear_value J2
    simp only [show ((0 : Int) == 0) = true from rfl, cond_true, sx, r6.cell]
    show cond ((60 : Int) == 60) _ _
    rw [show ((60 : Int) == 60) = true from rfl, cond_true]
    have hS6 := ho.srv.ext x6
    rw [<- ho.x]
    refine J_ hS6 ho.good fun y0 bs ss y3 y4 y5 sl w7 f7 hbl => ?_
    rw [hbl, hL']
    show cond true _ _
    rw [cond_true, <- ho.s]
    refine Kt (hS6.ext f7) ho.good hL' (by show (60 : Int) <= _; omega) (a := 60) (by rw [ho.now, hF.now]; omega) fun n8 w8 A8 v8 f8 hS8 hG8 hs8 ha8 hsub8 hn8 ht8 hm8 hx8 h81 _ => ?_
    obtain ⟨rfl, hL8⟩ := h81 (Int.le_refl _)
    rw [show ((1 : Int) == 1) = true from rfl, cond_true, <- ha8]
    have x8 : Ext w w8 := ((x3.trans x6).trans f7).new f8 (hnb hA')
    refine J_ hS8 hG8 fun y0 bs ss y3 y4 y5 sl w9 f9 hbl => ?_
    refine hJ2 _ _ ?_ (x8.trans f9)
    rw [hbl, hL8]; rfl
  clear_value J
  exact hJ
end Go.Proofs.PS
end
section
namespace Go.Proofs.PS
open Gp Go.Proofs Go.Proofs.EN Go.Proofs.CN Go.Proofs.PM
open Gp.V4 (fitsP sizeOk num)
open Gp.Bind (Bnd Slots live GoodB freeN getS In64)
set_option maxRecDepth 100000
set_option maxHeartbeats 4000000
theorem aaP {lf po ou : Int} (h1 : 0 <= lf ∧ lf <= 65535) (h2 : 0 <= po ∧ po <= 65535) (h3 : 0 <= ou ∧ ou <= 65535) (w : World) : Am lf po ou w fun r w' => r = true ∧ Ext w w' := by
  apply IY
  rw [wrap_i64 (n := lf) (by omega) (by omega), wrap_i64 (n := po) (by omega) (by omega), wrap_i64 (n := ou) (by omega) (by omega)]
  rw [wrap_i64 (n := 2 * lf) (by omega) (by omega), wrap_i64 (n := lf - 1) (by omega) (by omega), wrap_i64 (n := 2 * lf - 2) (by omega) (by omega), wrap_i64 (n := 2 * lf - 1) (by omega) (by omega)]
  refine Sv fun w1 c A v f1 hS hG hF hown => ?_
  have hnb : ∀ {B : SA} {L : List bF}, (∀ b, dP B L b -> w.heap.size <= b) -> ∀ y, y < w.heap.size -> ¬ dP B L y := fun hB y hy h => by have := hB y h; omega
  intro J
  have hJt : lf = 0 -> J true := by
    intro h0
    subst h0
    simp only [J, cond_true, show ((0 : Int) == 0) = true from rfl]
    refine AV (Q8 w1) ?_
    rintro r w2 ⟨rfl, f2⟩
    exact ⟨rfl, f1.trans f2⟩
  have hJf : 0 < lf -> J false := by
    intro hlf
    simp -zeta only [J, cond_false]
    have hp := Pg (lf := lf) (po := po) (ou := ou) (by omega) (by omega) (by omega)
    refine zD (KA SI hp) ?_
    rintro s w2 ⟨f2, b2, n2⟩
    have hS2 := hS.ext f2
    refine OY hS2 hG hF (sw := 0) (lf := lf) (po := po) (ou := ou) (.inl rfl) (by omega) (by omega) (by omega) (mF.vZ b2) fun s' w3 A' v' n id ho hL' hb3 hn3 => ?_
    have x3 : Ext w w3 := (f1.trans f2).new ho.fr (hnb hown)
    have hA' : ∀ b, dP A' v'.L b -> w.heap.size <= b := fun b hb => by
      rcases ho.sub b hb with h | h
      · exact hown b h
      · have := (f1.trans f2).size; omega
    have hap := Dx (r := 0) (ep := 0) (by omega) (by omega) hp
    intro J2
    have hJ2 : J2 false = J2 false := rfl
    rw [show ((0 : Int) != 0) = false from rfl, cond_false, <- ho.s]
    refine Kt ho.srv ho.good hL' (by show lf <= _; omega) (a := lf - 1) (by rw [ho.now, hF.now]; omega) fun n4 w4 A4 v4 f4 hS4 hG4 hs4 ha4 hsub4 hn4 ht4 hm4 hx4 _ h40 => ?_
    obtain ⟨rfl, hL4⟩ := h40 (by show lf - 1 < lf; omega)
    rw [show ((0 : Int) != 0) = false from rfl, cond_false, <- ho.x, <- ha4]
    refine J_ hS4 hG4 fun y0 bs ss y3 y4 y5 sl w5 f5 hbl => ?_
    rw [hbl, hL4]
    rw [show ((([({ blk := n, b := qB 0 po ou, un := lf, id := id } : bF)] : List bF).length : Int) != 1) = false from rfl]
    simp -zeta only [J2, cond_false]
    have x4 : Ext w w4 := x3.new f4 (hnb hA')
    have x5 : Ext w w5 := x4.trans f5
    have hA4 : ∀ b, dP A4 v4.L b -> w.heap.size <= b := fun b hb => by
      rcases hsub4 b hb with h | h
      · exact hA' b h
      · have := x3.size; omega
    have hb5 := (hb3.fr f4 fun b hb => (hn3 b hb).2).ext f5
    have hs'4 : ∀ b, ah.at s' b -> ¬ dP A4 v4.L b := fun b hb ho4 => by
      rcases hsub4 b ho4 with h | h
      · exact (hn3 b hb).2 h
      · have := hb3.lt hb; omega
    refine zD (KA SI hp) ?_
    rintro s6 w6 ⟨f6, b6, n6⟩
    have hS6 := (hS4.ext f5).ext f6
    rw [<- ho.s, <- hs4]
    have hnow4 : v4.now = (lf - 1).toNat := hn4
    refine Tq hS6 hG4 (by rw [hx4]; exact ho.nx) (by have := ho.tn; have := hF.tn; rw [ht4]; omega) (by rw [hm4, ho.most, hF.most]; omega) (sw := 0) (lf := lf) (po := po) (ou := ou) (by omega) (by omega) (by omega) hL4 (by rw [hnow4]; omega) (mF.vZ b6) fun s7 w7 A7 v7 ho7 hL7 hb7 hn7 => ?_
    have hne : ((v4.now : Nat) : Int) = lf - 1 := by rw [hnow4]; omega
    rw [hne] at hb7 hL7
    have x6 : Ext w w6 := x5.trans f6
    have x7 : Ext w w7 := x6.new ho7.fr (hnb hA4)
    have hA7 : ∀ b, dP A7 v7.L b -> w.heap.size <= b := fun b hb => by
      rcases ho7.sub b hb with h | h
      · exact hA4 b h
      · have := x6.size; omega
    have hb57 := (hb5.ext f6).fr ho7.fr fun b hb => hs'4 b hb
    have hap7 := Dx (r := 0) (ep := lf - 1) (by omega) (by omega) hp
    refine LJ (mF.vZ hb57) hap fun t0 t1 t2 t3 t4 t5 t6 t7 t8 t9 t10 t11 t12 t13 t14 t15 t16 t17 t18 t19 t20 t21 t22 t23 t24 t25 t26 t27 t28 t29 t30 t31 t32 t33 t34 w8 f8 e0 e1 e2 => ?_
    subst e0 e1
    refine aN fun a w9 r9 e9 z9 f9 => ?_
    refine aQ r9 rfl rfl fun w10 r10 f10' z10 => ?_
    have x10 : Ext w7 w10 := (f8.trans f9).new (f10' (· = a) rfl) fun y hy e => by have := f8.size; omega
    refine LJ (mF.vZ (hb7.ext x10)) hap7 fun u0 u1 u2 u3 u4 u5 u6 u7 u8 u9 u10 u11 u12 u13 u14 u15 u16 u17 u18 u19 u20 u21 u22 u23 u24 u25 u26 u27 u28 u29 u30 u31 u32 u33 u34 w11 f11 e0 e1 e2 => ?_
    subst e0 e1
    refine aN fun a' w12 r12 e12 z12 f12 => ?_
    refine aQ r12 rfl rfl fun w13 r13 f13' z13 => ?_
    have x13' : Ext w10 w13 := (f11.trans f12).new (f13' (· = a') rfl) fun y hy e => by have := f11.size; omega
    have x13 := x10.trans x13'
    have r10 := r10.ext x13'
    intro J3
    have hJ3 : J3 false := by
      simp -zeta only [J3, cond_false]
      intro J4
      have hJ4 : ∀ q W, q = true -> Ext w W -> J4 q W := fun q W hq hW => ⟨hq, hW⟩
      clear_value J4
      have hS13 := ho7.srv.ext x13
      rw [<- ho7.s]
      refine Kt hS13 ho7.good hL7 (by show lf - 1 + lf <= _; omega) (a := 2 * lf - 2) (by rw [ho7.now, hne]; omega) fun n14 w14 A14 v14 f14 hS14 hG14 hs14 ha14 hsub14 hn14 ht14 hm14 hx14 _ h140 => ?_
      obtain ⟨rfl, hL14⟩ := h140 (by show 2 * lf - 2 < lf - 1 + lf; omega)
      rw [show ((0 : Int) == 0) = true from rfl, cond_true, <- hs14]
      have x14 : Ext w w14 := (x7.trans x13).new f14 (hnb hA7)
      have hA14 : ∀ b, dP A14 v14.L b -> w.heap.size <= b := fun b hb => by
        rcases hsub14 b hb with h | h
        · exact hA7 b h
        · have := (x7.trans x13).size; omega
      refine Kt hS14 hG14 hL14 (by show lf - 1 + lf <= _; omega) (a := 2 * lf - 1) (by rw [hn14]; omega) fun n15 w15 A15 v15 f15 hS15 hG15 hs15 ha15 hsub15 hn15 ht15 hm15 hx15 h151 _ => ?_
      obtain ⟨rfl, hL15⟩ := h151 (by show lf - 1 + lf <= 2 * lf - 1; omega)
      have hxx : (some ⟨A.a.x, 0, none⟩ : Option Addr) = some ⟨A15.a.x, 0, none⟩ := by rw [ha15, ha14, ho7.x, ha4, ho.x]
      rw [show ((1 : Int) == 1) = true from rfl, cond_true, <- ho.x, <- ha4, <- ho7.x, <- ha14, <- ha15]
      have x15 : Ext w w15 := x14.new f15 (hnb hA14)
      refine J_ hS15 hG15 fun y0 bs ss y3 y4 y5 sl w16 f16 hbl => ?_
      rw [hbl, hL15]
      show cond true _ _
      rw [cond_true]
      refine AV (Q8 w16) ?_
      rintro r w17 ⟨rfl, f17⟩
      exact hJ4 _ _ rfl ((x15.trans f16).trans f17)
    clear_value J3
    simp only [show ((0 : Int) != 0) = false from rfl, cond_false, sx, r10.cell, r13.cell]
    have : ((lf - 1 : Int) != (lf - 1)) = false := by simp
    rw [this]
    exact hJ3
  clear_value J
  rw [show ((0 : Int) != 0) = false from rfl, cond_false, cond_false, show Option.isNone (some (⟨A.s, 0, none⟩ : Addr)) = false from rfl, cond_false]
  by_cases h0 : lf = 0
  · have : (lf == 0) = true := by simpa using h0
    rw [this]
    exact hJt h0
  · have : (lf == 0) = false := by simpa using h0
    rw [this]
    exact hJf (by omega)
end Go.Proofs.PS
end
