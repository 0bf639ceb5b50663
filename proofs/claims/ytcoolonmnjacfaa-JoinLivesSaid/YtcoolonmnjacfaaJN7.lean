import Derived.Test.YtcoolonmnjacfaaJN6
import Derived.Test.YtcoolonmnjacfaaBufN
import Derived.Shelf.Sort.Plain
/- Keys are put in their order: the library's contract of slices.Sort, at this program. -/
namespace Go.Proofs
open Gp Gp.Hash Gp.Jn
set_option maxRecDepth 100000

def layK_ren : Go.Shelf.Ren := ⟨fun | 190 => 29 | 125 => 51 | 258 => 50 | 128 => 73 | 129 => 74 | 302 => 64 | 303 => 65 | 304 => 66 | 305 => 67 | 306 => 68 | 307 => 69 | 308 => 70 | 309 => 71 | 310 => 72 | 333 => 78 | 329 => 79 | 330 => 80 | 334 => 81 | 335 => 82 | 336 => 83 | 344 => 85 | n => n, fun | 31 => 35 | 9 => 9 | 3 => 3 | 46 => 92 | 0 => 0 | 51 => 113 | 53 => 115 | 4 => 4 | 183 => 106 | 182 => 105 | 131 => 80 | 5 => 5 | 218 => 119 | 222 => 123 | 228 => 127 | 229 => 128 | n => n, fun | n => n⟩
theorem layK : Lays.n190 Try.prog layK_ren := {
  mixed := by kernel_rfl,
  f125 := Try.func51.trans (congrArg some (by kernel_rfl)),
  f128 := Try.func73.trans (congrArg some (by kernel_rfl)),
  f129 := Try.func74.trans (congrArg some (by kernel_rfl)),
  f190 := Try.func29.trans (congrArg some (by kernel_rfl)),
  f258 := Try.func50.trans (congrArg some (by kernel_rfl)),
  f302 := Try.func64.trans (congrArg some (by kernel_rfl)),
  f303 := Try.func65.trans (congrArg some (by kernel_rfl)),
  f304 := Try.func66.trans (congrArg some (by kernel_rfl)),
  f305 := Try.func67.trans (congrArg some (by kernel_rfl)),
  f306 := Try.func68.trans (congrArg some (by kernel_rfl)),
  f307 := Try.func69.trans (congrArg some (by kernel_rfl)),
  f308 := Try.func70.trans (congrArg some (by kernel_rfl)),
  f309 := Try.func71.trans (congrArg some (by kernel_rfl)),
  f310 := Try.func72.trans (congrArg some (by kernel_rfl)),
  f329 := Try.func79.trans (congrArg some (by kernel_rfl)),
  f330 := Try.func80.trans (congrArg some (by kernel_rfl)),
  f333 := Try.func78.trans (congrArg some (by kernel_rfl)),
  f334 := Try.func81.trans (congrArg some (by kernel_rfl)),
  f335 := Try.func82.trans (congrArg some (by kernel_rfl)),
  f336 := Try.func83.trans (congrArg some (by kernel_rfl)),
  f344 := Try.func85.trans (congrArg some (by kernel_rfl)),
  t0 := Try.underlying0,
  a0 := Try.isAgg0,
  z0 := Try.sizeOf0,
  v0 := Try.zeroValue0,
  t3 := Try.underlying3,
  a3 := Try.isAgg3,
  z3 := Try.sizeOf3,
  v3 := Try.zeroValue3,
  t4 := Try.underlying4,
  a4 := Try.isAgg4,
  z4 := Try.sizeOf4,
  v4 := Try.zeroValue4,
  t5 := Try.underlying5,
  a5 := Try.isAgg5,
  z5 := Try.sizeOf5,
  v5 := Try.zeroValue5,
  t9 := Try.underlying9,
  a9 := Try.isAgg9,
  z9 := Try.sizeOf9,
  v9 := Try.zeroValue9,
  t31 := Try.underlying35,
  a31 := Try.isAgg35,
  z31 := Try.sizeOf35,
  v31 := Try.zeroValue35,
  t46 := Try.underlying92,
  a46 := Try.isAgg92,
  z46 := Try.sizeOf92,
  v46 := Try.zeroValue92,
  t51 := Try.underlying113,
  a51 := Try.isAgg113,
  z51 := Try.sizeOf113,
  v51 := Try.zeroValue113,
  t53 := Try.underlying115,
  a53 := Try.isAgg115,
  z53 := Try.sizeOf115,
  v53 := Try.zeroValue115,
  t131 := Try.underlying80,
  a131 := Try.isAgg80,
  z131 := Try.sizeOf80,
  v131 := Try.zeroValue80,
  t182 := Try.underlying105,
  a182 := Try.isAgg105,
  z182 := Try.sizeOf105,
  v182 := Try.zeroValue105,
  t183 := Try.underlying106,
  a183 := Try.isAgg106,
  z183 := Try.sizeOf106,
  v183 := Try.zeroValue106,
  t218 := Try.underlying119,
  a218 := Try.isAgg119,
  z218 := Try.sizeOf119,
  v218 := Try.zeroValue119,
  t222 := Try.underlying123,
  a222 := Try.isAgg123,
  z222 := Try.sizeOf123,
  v222 := Try.zeroValue123,
  t228 := Try.underlying127,
  a228 := Try.isAgg127,
  z228 := Try.sizeOf127,
  v228 := Try.zeroValue127,
  t229 := Try.underlying128,
  a229 := Try.isAgg128,
  z229 := Try.sizeOf128,
  v229 := Try.zeroValue128 }

theorem bl_lt : ∀ x y : List UInt8, Op.bytesLess x y = decide (x < y)
  | [], [] => by simp [Op.bytesLess]
  | [], _ :: _ => by simp [Op.bytesLess]
  | _ :: _, [] => by simp [Op.bytesLess]
  | a :: x, b :: y => by
    rw [Bool.eq_iff_iff, decide_eq_true_eq, List.cons_lt_cons_iff]
    simp only [Op.bytesLess, Bool.or_eq_true, decide_eq_true_eq, Bool.and_eq_true, beq_iff_eq, bl_lt x y]
theorem bl_le (x y : List UInt8) : decide (x ≤ y) = !Op.bytesLess y x := by
  rw [bl_lt, ← decide_not]
  rfl

abbrev eK (k : Key) : List Value := [.string k]
theorem eK_len (k : Key) : (eK k).length = 1 := rfl
theorem eK_one (k : Key) : ∀ v ∈ eK k, isOne v = true := by intro v hv; rw [List.mem_singleton.1 hv]; rfl
theorem eK_map (xs : List Key) : xs.flatMap eK = xs.map Value.string := by
  induction xs with
  | nil => rfl
  | cons x l ih => rw [List.flatMap_cons, ih]; rfl

namespace SrtS
open Go.Shelf Go.RowKit Go.Lib Go.Sort
abbrev unS (l : List UInt8) : Key := ⟨l.toArray⟩
abbrev toS (k : Key) : List UInt8 := k.data.toList
theorem unto (k : Key) : unS (toS k) = k := rfl
theorem lt_toS (a b : List UInt8) : strLt (unS a) (unS b) = Op.bytesLess a b := by
  unfold strLt
  rw [ByteArray.toList_eq, ByteArray.toList_eq]

theorem sorted (xs : List Key) : (((xs.map toS).mergeSort fun x y => decide (x ≤ y)).map unS) = sortK xs := by
  refine srtK_one ?_ (sortK_ok xs).1 ?_
  · unfold SrtK
    rw [List.pairwise_map]
    have h := List.pairwise_mergeSort (le := fun x y : List UInt8 => decide (x ≤ y)) (fun a b c h1 h2 => by
      rw [bl_le, Bool.not_eq_true'] at *
      cases h : Op.bytesLess c a with
      | false => rfl
      | true =>
        cases h3 : Op.bytesLess a b with
        | true => rw [bl_trans _ _ _ h h3] at h2; cases h2
        | false => have e := bl_tri _ _ h3 h1; subst e; rw [h] at h2; cases h2) (fun a b => by
      rw [bl_le, bl_le]
      cases h1 : Op.bytesLess b a with
      | false => rfl
      | true =>
        cases h2 : Op.bytesLess a b with
        | false => rfl
        | true => have := bl_trans _ _ _ h1 h2; rw [bl_irr] at this; cases this) (xs.map toS)
    refine h.imp fun {a b} h => ?_
    rw [lt_toS]
    rw [bl_le] at h
    simpa using h
  · refine (((List.mergeSort_perm _ _).map unS).trans ?_).trans (sortK_ok xs).2.symm
    rw [List.map_map]
    have : xs.map (unS ∘ toS) = xs := by
      have : (unS ∘ toS) = id := rfl
      rw [this, List.map_id]
    rw [this]

theorem holds {w : World} {b : Nat} {xs : List Key} {pad : List Value} (hr : Row w b (xs.flatMap eK ++ pad)) : Holds encStr w b 0 (xs.map toS).toArray := by
  intro j hj
  rw [List.size_toArray, List.length_map] at hj
  refine ⟨?_, hr.frozen _⟩
  rw [Nat.zero_add, hr.cell, eK_map, List.getElem?_append_left (by rw [List.length_map]; omega), List.getElem?_map, List.getElem?_eq_getElem hj, Option.map_some]
  rw [getElem!_pos _ j (by simpa using hj)]
  simp [encStr]

theorem row_of {w : World} {b n : Nat} {xs ys : List Key} {pad : List Value} {os : Array Obj} (hr : Row w b (xs.flatMap eK ++ pad)) (hd : ys.length = xs.length) :
    Row (grow (putRow encStr (Sort.ahead w n) b 0 (ys.map toS).toArray) os) b (ys.flatMap eK ++ pad) ∧ Fr8 w (grow (putRow encStr (Sort.ahead w n) b 0 (ys.map toS).toArray) os) (· = b) := by
  obtain ⟨T, ht⟩ := hr
  have hb : b < w.heap.size := (Array.getElem?_eq_some_iff.1 ht).1
  have hh : (grow (putRow encStr (Sort.ahead w n) b 0 (ys.map toS).toArray) os).heap = w.heap.modify b (onCells (putCells encStr 0 (ys.map toS).toArray)) ++ os := rfl
  constructor
  · refine ⟨T, ?_⟩
    rw [hh, Array.getElem?_append_left (by simpa using hb), Array.getElem?_modify, if_pos rfl, ht]
    have : putCells encStr 0 (ys.map toS).toArray ⟨xs.flatMap eK ++ pad⟩ = ⟨ys.flatMap eK ++ pad⟩ := by
      apply Array.ext_getElem?
      intro k
      unfold putCells
      rw [Array.getElem?_mapIdx]
      simp only [Nat.zero_le, true_and, Nat.zero_add, Nat.sub_zero, List.getElem?_toArray, List.size_toArray, List.length_map, eK_map]
      by_cases hk : k < ys.length
      · rw [List.getElem?_append_left (by rw [List.length_map]; omega), List.getElem?_append_left (by rw [List.length_map]; omega), List.getElem?_map, List.getElem?_map, List.getElem?_eq_getElem (by omega), List.getElem?_eq_getElem hk, Option.map_some, Option.map_some, Option.map_some, if_pos hk]
        rw [getElem!_pos _ k (by simpa using hk)]
        simp [encStr]
      · rw [List.getElem?_append_right (by rw [List.length_map]; omega), List.getElem?_append_right (by rw [List.length_map]; omega), List.length_map, List.length_map, hd]
        cases pad[k - xs.length]? with
        | none => rfl
        | some v => rw [Option.map_some, if_neg (by omega)]
    simp only [Option.map_some, onCells, this]
  · refine ⟨?_, fun c hc hcb => ?_, ⟨rfl, rfl, rfl⟩⟩
    · rw [hh]; simp
    · rw [hh, Array.getElem?_append_left (by simpa using hc), Array.getElem?_modify, if_neg (fun e => hcb e.symm)]
end SrtS

theorem lenZ (w : World) : c_math_bits_Len (IntKind.u64.wrap ((0 : Nat) : Int)) w fun r w' => r = 0 ∧ w' = w := by
  apply ok_math_bits_Len
  unfold s_math_bits_Len
  have h : c_math_bits_Len64 (IntKind.u64.wrap ((0 : Nat) : Int)) w fun r w' => r = 0 ∧ w' = w := by
    apply ok_math_bits_Len64
    unfold s_math_bits_Len64
    rw [show IntKind.u64.wrap ((0 : Nat) : Int) = 0 from rfl]
    simp only [show decide ((0 : Int) ≥ 4294967296) = false from rfl, show decide ((0 : Int) ≥ 65536) = false from rfl, show decide ((0 : Int) ≥ 256) = false from rfl, cond_false, show IntKind.u8.wrap 0 = 0 from rfl]
    exact ⟨0, by decide, rfl, rfl, by trivial⟩
  refine cm_math_bits_Len64 h ?_
  rintro r w' ⟨rfl, hw⟩
  exact ⟨rfl, hw⟩

theorem pdqZ (s : SliceV) (lim : Int) (w : World) : c_slices_pdqsortOrdered_string s 0 ((0 : Nat) : Int) lim w fun w' => w' = w := by
  apply ok_slices_pdqsortOrdered_string
  unfold s_slices_pdqsortOrdered_string
  refine LoopP_inv (fun st W => W = w ∧ st.1 = 0 ∧ st.2.1 = 0) (fun _ _ => 0) ⟨rfl, rfl, rfl⟩ ?_
  rintro ⟨a, b, c, d, e, ⟨⟩⟩ W ⟨rfl, ha, hb⟩ next hnext
  simp only at ha hb
  subst ha hb
  have : decide ((IntKind.i64.wrap ((0 : Int) - 0)) ≤ 12) = true := rfl
  rw [this, cond_true]
  have h : c_slices_insertionSortOrdered_string s 0 0 W fun w' => w' = W := by
    apply ok_slices_insertionSortOrdered_string
    unfold s_slices_insertionSortOrdered_string
    refine LoopP_inv (fun st W' => W' = W ∧ st.1 = 1) (fun _ _ => 0) ⟨rfl, rfl⟩ ?_
    rintro ⟨a, ⟨⟩⟩ W' ⟨rfl, ha⟩ next' hnext'
    simp only at ha
    subst ha
    have : decide ((1 : Int) < 0) = false := rfl
    rw [this, cond_false]
  refine cm_slices_insertionSortOrdered_string h ?_
  rintro w' hw
  exact hw

open SrtS in
/-- slices.Sort of strings. -/
theorem sortS_ok {w : World} {s : SliceV} {xs : List Key} (hs : BufN 1 eK w s xs) (hl : xs.length ≤ 2 ^ 30) :
    c_slices_Sort_string_string s w fun w' => Fr8 w w' (SliceV.at s) ∧ BufN 1 eK w' s (sortK xs) := by
  by_cases hne : s.a = none
  · have hx : xs = [] := by
      rcases hs.mem with ⟨_, h, _⟩ | ⟨b, pad, h, _⟩
      · exact h
      · rw [hne] at h; cases h
    subst hx
    have hlen : s.len = 0 := hs.len
    apply ok_slices_Sort_string_string
    unfold s_slices_Sort_string_string
    rw [hlen]
    refine cm_math_bits_Len (lenZ w) ?_
    rintro r w' ⟨rfl, hw⟩
    subst hw
    refine cm_slices_pdqsortOrdered_string (pdqZ s _ _) ?_
    rintro w' hw
    subst hw
    exact ⟨Fr8.refl _ _, hs⟩
  obtain ⟨b, pad, ha, hc, hr⟩ : ∃ b pad, s.a = some ⟨b, 0, none⟩ ∧ s.cap * 1 = xs.length * 1 + pad.length ∧ Row w b (xs.flatMap eK ++ pad) := by
    rcases hs.mem with ⟨h, _, _⟩ | h
    · exact absurd h hne
    · exact h
  have hlen := hs.len
  have hsl := (sortK_ok xs).2.length_eq
  have hcon := Any.slices_Sort_string layK b 0 s.cap (xs.map toS) w (holds hr) hr.lt (by rw [List.length_map]; omega)
  unfold c_slices_Sort_string_string
  rw [ha, hlen]
  refine Calls.mono (show Calls Try.prog 29 #[.slice (some ⟨b, 0, none⟩) xs.length s.cap] w _ from by rw [List.length_map] at hcon; exact hcon) ?_
  rintro e w' ⟨rfl, n, os, rfl⟩
  have es : ((xs.map toS).mergeSort fun x y => decide (x ≤ y)) = (sortK xs).map toS := by
    rw [← sorted xs, List.map_map]
    have : (toS ∘ unS) = id := rfl
    rw [this, List.map_id]
  rw [es]
  obtain ⟨g1, g2⟩ := row_of (n := n) (os := os) hr hsl
  exact ⟨rfl, g2.mono fun c hcb => ⟨0, by rw [ha, hcb]⟩, ⟨by rw [hlen]; exact hsl.symm, .inr ⟨b, pad, ha, by rw [hc, hsl], g1⟩⟩⟩
end Go.Proofs
