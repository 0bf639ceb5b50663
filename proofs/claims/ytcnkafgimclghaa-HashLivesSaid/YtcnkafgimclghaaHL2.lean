import Derived.Test.YtcnkafgimclghaaHL1
import Derived.Shelf.SlSortCmp.WholeK
/- A table's entries are sorted by their keys: the library's contract of slices.SortFunc, at this program. -/
namespace Go.Proofs
open Gp Gp.Hash
set_option maxRecDepth 100000

def cmpS (a b : ByteArray) : Int := if strLt a b = true then -1 else if (!(strLt a b || strEq a b)) = true then 1 else 0

theorem isNaNS_ok (a : ByteArray) (w : World) : c_cmp_isNaN_string a w fun r w' => r = false ∧ w' = w := by
  apply ok_cmp_isNaN_string
  unfold s_cmp_isNaN_string
  exact ⟨by rw [strEq_iff.2 rfl]; rfl, rfl⟩

theorem compareS_ok (a b : ByteArray) (w : World) : c_cmp_Compare_string a b w fun r w' => r = cmpS a b ∧ w' = w := by
  apply ok_cmp_Compare_string
  unfold s_cmp_Compare_string
  refine cm_cmp_isNaN_string (isNaNS_ok _ _) ?_
  rintro r w1 ⟨rfl, hw⟩
  subst hw
  refine cm_cmp_isNaN_string (isNaNS_ok _ _) ?_
  rintro r w1 ⟨rfl, hw⟩
  subst hw
  unfold cmpS
  simp only [cond_false]
  cases h1 : strLt a b with
  | true => exact ⟨by simp, by trivial⟩
  | false =>
    cases h2 : strEq a b with
    | true => exact ⟨by simp, by trivial⟩
    | false => exact ⟨by simp, by trivial⟩

def layT_ren : Go.Shelf.Ren := ⟨fun | 6 => 82 | 15 => 113 | 14 => 112 | 28 => 132 | 29 => 133 | 20 => 124 | 21 => 125 | 22 => 126 | 23 => 127 | 24 => 128 | 25 => 129 | 26 => 130 | 27 => 131 | 46 => 139 | 47 => 140 | 48 => 141 | 49 => 142 | 50 => 143 | 57 => 146 | n => n, fun | 22 => 93 | 24 => 100 | 25 => 137 | 3 => 3 | 39 => 79 | 0 => 0 | 53 => 158 | 55 => 178 | 4 => 4 | 46 => 171 | 45 => 170 | 50 => 70 | 5 => 5 | 9 => 9 | 66 => 182 | 70 => 186 | 76 => 193 | 77 => 194 | n => n, fun | n => n⟩
theorem layT : SlLaysF0.n6 Try.prog layT_ren := {
  mixed := by kernel_rfl,
  f6 := ⟨Try.f82.name, by decide, Try.func82.trans (congrArg some (by kernel_rfl))⟩,
  f14 := ⟨Try.f112.name, by decide, Try.func112.trans (congrArg some (by kernel_rfl))⟩,
  f15 := Try.func113.trans (congrArg some (by kernel_rfl)),
  f20 := ⟨Try.f124.name, by decide, Try.func124.trans (congrArg some (by kernel_rfl))⟩,
  f21 := ⟨Try.f125.name, by decide, Try.func125.trans (congrArg some (by kernel_rfl))⟩,
  f22 := ⟨Try.f126.name, by decide, Try.func126.trans (congrArg some (by kernel_rfl))⟩,
  f23 := ⟨Try.f127.name, by decide, Try.func127.trans (congrArg some (by kernel_rfl))⟩,
  f24 := ⟨Try.f128.name, by decide, Try.func128.trans (congrArg some (by kernel_rfl))⟩,
  f25 := ⟨Try.f129.name, by decide, Try.func129.trans (congrArg some (by kernel_rfl))⟩,
  f26 := ⟨Try.f130.name, by decide, Try.func130.trans (congrArg some (by kernel_rfl))⟩,
  f27 := ⟨Try.f131.name, by decide, Try.func131.trans (congrArg some (by kernel_rfl))⟩,
  f28 := Try.func132.trans (congrArg some (by kernel_rfl)),
  f29 := Try.func133.trans (congrArg some (by kernel_rfl)),
  f46 := ⟨Try.f139.name, by decide, Try.func139.trans (congrArg some (by kernel_rfl))⟩,
  f47 := Try.func140.trans (congrArg some (by kernel_rfl)),
  f48 := Try.func141.trans (congrArg some (by kernel_rfl)),
  f49 := ⟨Try.f142.name, by decide, Try.func142.trans (congrArg some (by kernel_rfl))⟩,
  f50 := ⟨Try.f143.name, by decide, Try.func143.trans (congrArg some (by kernel_rfl))⟩,
  f57 := ⟨Try.f146.name, by decide, Try.func146.trans (congrArg some (by kernel_rfl))⟩,
  t0 := Try.underlying0,
  a0 := Try.isAgg0,
  z0 := Try.sizeOf0,
  v0 := Try.zeroValue0,
  t3 := Try.underlying3,
  a3 := Try.isAgg3,
  z3 := Try.sizeOf3,
  v3 := Try.zeroValue3,
  t4 := Try.underlying4,
  a4 := Try.isAgg4,
  z4 := Try.sizeOf4,
  v4 := Try.zeroValue4,
  t5 := Try.underlying5,
  a5 := Try.isAgg5,
  z5 := Try.sizeOf5,
  v5 := Try.zeroValue5,
  t9 := Try.underlying9,
  a9 := Try.isAgg9,
  z9 := Try.sizeOf9,
  v9 := Try.zeroValue9,
  t22 := Try.underlying93,
  a22 := Try.isAgg93,
  z22 := Try.sizeOf93,
  v22 := Try.zeroValue93,
  t25 := Try.underlying137,
  a25 := Try.isAgg137,
  z25 := Try.sizeOf137,
  v25 := Try.zeroValue137,
  t39 := Try.underlying79,
  a39 := Try.isAgg79,
  z39 := Try.sizeOf79,
  v39 := Try.zeroValue79,
  t45 := Try.underlying170,
  a45 := Try.isAgg170,
  z45 := Try.sizeOf170,
  v45 := Try.zeroValue170,
  t46 := Try.underlying171,
  a46 := Try.isAgg171,
  z46 := Try.sizeOf171,
  v46 := Try.zeroValue171,
  t50 := Try.underlying70,
  a50 := Try.isAgg70,
  z50 := Try.sizeOf70,
  v50 := Try.zeroValue70,
  t53 := Try.underlying158,
  a53 := Try.isAgg158,
  z53 := Try.sizeOf158,
  v53 := Try.zeroValue158,
  t55 := Try.underlying178,
  a55 := Try.isAgg178,
  z55 := Try.sizeOf178,
  v55 := Try.zeroValue178,
  t66 := Try.underlying182,
  a66 := Try.isAgg182,
  z66 := Try.sizeOf182,
  v66 := Try.zeroValue182,
  t70 := Try.underlying186,
  a70 := Try.isAgg186,
  z70 := Try.sizeOf186,
  v70 := Try.zeroValue186,
  t76 := Try.underlying193,
  a76 := Try.isAgg193,
  z76 := Try.sizeOf193,
  v76 := Try.zeroValue193,
  t77 := Try.underlying194,
  a77 := Try.isAgg194,
  z77 := Try.sizeOf194,
  v77 := Try.zeroValue194 }

namespace Srt
open Go.Shelf Go.RowKit Go.Lib Go.Sort
theorem eT_cell (t : Ent) : ∀ v ∈ eE t, v.oneCell' = true := by
  intro v hv
  simp only [eE, List.mem_cons, List.not_mem_nil, or_false] at hv
  rcases hv with rfl | rfl | rfl <;> rfl

def cfT (x y : Ent) : Int := cmpS (eKey x) (eKey y)
theorem ltCf (x y : Ent) : ltOf cfT x y = strLt (eKey x) (eKey y) := by
  unfold ltOf cfT cmpS
  cases h1 : strLt (eKey x) (eKey y) with
  | true => simp
  | false => cases h2 : strEq (eKey x) (eKey y) <;> simp
theorem swo : SWO (ltOf cfT) where
  irrefl x := by rw [ltCf]; exact kl_irr _
  trans x y z h1 h2 := by rw [ltCf] at *; exact kl_trans h1 h2
  ntrans x y z h1 h2 := by
    rw [ltCf] at *
    cases h : strLt (eKey x) (eKey z) with
    | false => rfl
    | true =>
      cases h3 : strLt (eKey y) (eKey x) with
      | true => have := kl_trans h3 h; rw [h2] at this; cases this
      | false =>
        have e := kl_tri h1 h3
        rw [e, h2] at h; cases h

theorem closure (x y : Ent) (W : World) : c_hash_Table_All_1_2 (eKey x) (eN x) (eU x) (eKey y) (eN y) (eU y) W fun r W' => r = cfT x y ∧ ∃ q os', W' = grow (W.drewN q) os' := by
  apply ok_hash_Table_All_1_2
  unfold s_hash_Table_All_1_2 Al
  have r1 : Row (W.alloc (.cells ⟨eE x⟩ 100)) W.heap.size (eE x) := Row.new W (eE x) 100
  have x2 : Ext (W.alloc (.cells ⟨eE x⟩ 100)) ((W.alloc (.cells ⟨eE x⟩ 100)).alloc (.cells ⟨eE y⟩ 100)) := fun S => Fr8.alloc _ _ S
  have r2 := r1.ext x2
  have r3 : Row ((W.alloc (.cells ⟨eE x⟩ 100)).alloc (.cells ⟨eE y⟩ 100)) (W.alloc (.cells ⟨eE x⟩ 100)).heap.size (eE y) := Row.new _ (eE y) 100
  have c1 : ((W.alloc (.cells ⟨eE x⟩ 100)).alloc (.cells ⟨eE y⟩ 100)).cell? ⟨W.heap.size, 0, none⟩ = some (.string (eKey x)) := by
    have := r2.cell 0
    exact this
  have c2 : ((W.alloc (.cells ⟨eE x⟩ 100)).alloc (.cells ⟨eE y⟩ 100)).cell? ⟨(W.alloc (.cells ⟨eE x⟩ 100)).heap.size, 0, none⟩ = some (.string (eKey y)) := by
    have := r3.cell 0
    exact this
  simp only [Ld_eq, c1, c2, LdV_some, dec_str]
  refine cm_cmp_Compare_string (compareS_ok _ _ _) ?_
  rintro r W3 ⟨rfl, hw⟩
  subst hw
  exact ⟨rfl, 0, _, by rw [alloc_eq_grow, alloc_eq_grow, grow_grow]; rfl⟩

theorem lays (blk off size : Nat) (w : World) : CmpLays Try.prog 83 #[] eE 3 cfT blk off size w := by
  intro m os dk _ x y
  have h := closure x y (sortWorldK eE 3 w blk off m dk os)
  unfold c_hash_Table_All_1_2 at h
  have e : (#[.agg (eE x).toArray, .agg (eE y).toArray] ++ #[] : Array Value) = ⟨[.agg ⟨eE x⟩, .agg ⟨eE y⟩]⟩ := by simp
  rw [e]
  refine Calls.mono h ?_
  rintro e W' ⟨r, he, rfl, hq⟩
  exact ⟨he, hq⟩

theorem flatK_get (d : Array Ent) {j : Nat} (hj : j < d.size * 3) : (flatK eE 3 d)[j]! = (d.toList.flatMap eE)[j]?.getD default := by
  rw [get_flatK eE 3 d j hj]
  have hlt : j / 3 < d.size := by omega
  have e := flat_get eE 3 eE_len d.toList (j / 3) (j % 3) (Nat.mod_lt _ (by omega))
  rw [show j / 3 * 3 + j % 3 = j by omega] at e
  rw [e, Array.getElem?_toList, Array.getElem?_eq_getElem hlt, getElem!_pos d _ hlt, Option.bind_some]
  rw [List.getElem!_eq_getElem?_getD]

theorem flat_getD {l : List Ent} {j : Nat} (hj : j < l.length * 3) : (l.flatMap eE)[j]? = some ((l.flatMap eE)[j]?.getD default) := by
  have hl := flat_len eE 3 eE_len l
  rw [List.getElem?_eq_getElem (by omega)]; rfl

theorem holds {w : World} {b : Nat} {xs : List Ent} {pad : List Value} (hr : Row w b (xs.flatMap eE ++ pad)) : HoldsK eE 3 w b 0 xs.toArray := by
  intro j hj
  rw [size_flatK] at hj
  have hl := flat_len eE 3 eE_len xs
  simp only [List.size_toArray] at hj
  refine ⟨?_, hr.frozen _⟩
  rw [Nat.zero_add, hr.cell, List.getElem?_append_left (by omega), flatK_get _ (by simpa using hj), List.toList_toArray]
  exact flat_getD hj

theorem row_of {w : World} {b n : Nat} {xs : List Ent} {pad : List Value} {d' : Array Ent} {os : Array Obj} (hr : Row w b (xs.flatMap eE ++ pad)) (hd : d'.size = xs.length) :
    Row (sortWorldK eE 3 w b 0 n d' os) b (d'.toList.flatMap eE ++ pad) ∧ Fr8 w (sortWorldK eE 3 w b 0 n d' os) (· = b) := by
  obtain ⟨T, ht⟩ := hr
  have hb : b < w.heap.size := (Array.getElem?_eq_some_iff.1 ht).1
  have hl := flat_len eE 3 eE_len xs
  have hl' : (d'.toList.flatMap eE).length = d'.size * 3 := by rw [flat_len eE 3 eE_len, Array.length_toList]
  have hh : (sortWorldK eE 3 w b 0 n d' os).heap = w.heap.modify b (onCells (putCells id 0 (flatK eE 3 d'))) ++ os := rfl
  constructor
  · refine ⟨T, ?_⟩
    rw [hh, Array.getElem?_append_left (by simpa using hb), Array.getElem?_modify, if_pos rfl, ht]
    have : putCells id 0 (flatK eE 3 d') ⟨xs.flatMap eE ++ pad⟩ = ⟨d'.toList.flatMap eE ++ pad⟩ := by
      apply Array.ext_getElem?
      intro k
      unfold putCells
      rw [Array.getElem?_mapIdx]
      simp only [size_flatK, Nat.zero_le, true_and, Nat.zero_add, Nat.sub_zero, id_eq, List.getElem?_toArray]
      by_cases hk : k < d'.size * 3
      · rw [List.getElem?_append_left (by omega), List.getElem?_append_left (by omega), flat_getD (l := xs) (by omega), Option.map_some, if_pos hk, flatK_get _ hk]
        exact (flat_getD (by rw [Array.length_toList]; exact hk)).symm
      · rw [List.getElem?_append_right (by omega), List.getElem?_append_right (by omega), hl, hl', hd]
        cases pad[k - xs.length * 3]? with
        | none => rfl
        | some v => rw [Option.map_some, if_neg (by rw [← hd]; exact hk)]
    simp only [Option.map_some, onCells, this]
  · refine ⟨?_, fun c hc hcb => ?_, ⟨rfl, rfl, rfl⟩⟩
    · rw [hh]; simp
    · rw [hh, Array.getElem?_append_left (by simpa using hc), Array.getElem?_modify, if_neg (fun e => hcb e.symm)]
end Srt

theorem lenZ (w : World) : c_math_bits_Len (IntKind.u64.wrap ((0 : Nat) : Int)) w fun r w' => r = 0 ∧ w' = w := by
  apply ok_math_bits_Len
  unfold s_math_bits_Len
  have h : c_math_bits_Len64 (IntKind.u64.wrap ((0 : Nat) : Int)) w fun r w' => r = 0 ∧ w' = w := by
    apply ok_math_bits_Len64
    unfold s_math_bits_Len64
    rw [show IntKind.u64.wrap ((0 : Nat) : Int) = 0 from rfl]
    simp only [show decide ((0 : Int) ≥ 4294967296) = false from rfl, show decide ((0 : Int) ≥ 65536) = false from rfl, show decide ((0 : Int) ≥ 256) = false from rfl, cond_false, show IntKind.u8.wrap 0 = 0 from rfl]
    exact ⟨0, by decide, rfl, rfl, by trivial⟩
  refine cm_math_bits_Len64 h ?_
  rintro r w' ⟨rfl, hw⟩
  exact ⟨rfl, hw⟩

theorem pdqZ (s : SliceV) (lim : Int) (v : Value) (w : World) : c_slices_pdqsortCmpFunc_hash_entry s 0 ((0 : Nat) : Int) lim v w fun w' => w' = w := by
  apply ok_slices_pdqsortCmpFunc_hash_entry
  unfold s_slices_pdqsortCmpFunc_hash_entry
  refine LoopP_inv (fun st W => W = w ∧ st.1 = 0 ∧ st.2.1 = 0) (fun _ _ => 0) ⟨rfl, rfl, rfl⟩ ?_
  rintro ⟨a, b, c, d, e, ⟨⟩⟩ W ⟨rfl, ha, hb⟩ next hnext
  simp only at ha hb
  subst ha hb
  have : decide ((IntKind.i64.wrap ((0 : Int) - 0)) ≤ 12) = true := rfl
  rw [this, cond_true]
  have h : c_slices_insertionSortCmpFunc_hash_entry s 0 0 v W fun w' => w' = W := by
    apply ok_slices_insertionSortCmpFunc_hash_entry
    unfold s_slices_insertionSortCmpFunc_hash_entry
    refine LoopP_inv (fun st W' => W' = W ∧ st.1 = 1) (fun _ _ => 0) ⟨rfl, rfl⟩ ?_
    rintro ⟨a, ⟨⟩⟩ W' ⟨rfl, ha⟩ next' hnext'
    simp only at ha
    subst ha
    have : decide ((1 : Int) < 0) = false := rfl
    rw [this, cond_false]
  refine cm_slices_insertionSortCmpFunc_hash_entry h ?_
  rintro w' hw
  exact hw

open Srt in
theorem sortE_ok {w : World} {s : SliceV} {xs : List Ent} (hs : BufN 3 eE w s xs) (hl : xs.length ≤ 2 ^ 30) :
    c_slices_SortFunc_hash_entry_hash_entry s (Value.func (.func 83) #[] #[]) w fun w' => Fr8 w w' (SliceV.at s) ∧ ∃ ys : List Ent, ys.Perm xs ∧ ys.Pairwise (fun x y => strLt (eKey y) (eKey x) = false) ∧ BufN 3 eE w' s ys := by
  by_cases hne : s.a = none
  · have hx : xs = [] := by
      rcases hs.mem with ⟨_, h, _⟩ | ⟨b, pad, h, _⟩
      · exact h
      · rw [hne] at h; cases h
    subst hx
    have hlen : s.len = 0 := hs.len
    apply ok_slices_SortFunc_hash_entry_hash_entry
    unfold s_slices_SortFunc_hash_entry_hash_entry
    rw [hlen]
    refine cm_math_bits_Len (lenZ w) ?_
    rintro r w' ⟨rfl, hw⟩
    subst hw
    refine cm_slices_pdqsortCmpFunc_hash_entry (pdqZ s _ _ _) ?_
    rintro w' hw
    subst hw
    exact ⟨Fr8.refl _ _, [], List.Perm.refl _, List.Pairwise.nil, hs⟩
  obtain ⟨b, pad, ha, hc, hr⟩ : ∃ b pad, s.a = some ⟨b, 0, none⟩ ∧ s.cap * 3 = xs.length * 3 + pad.length ∧ Row w b (xs.flatMap eE ++ pad) := by
    rcases hs.mem with ⟨h, _, _⟩ | h
    · exact absurd h hne
    · exact h
  have hlen := hs.len
  have eg : ∀ args w, (callFunc 83 args).run Try.prog w = .ok (.enter 83 args) w := enters_of Try.func83 (by kernel_rfl) rfl
  have hcon := AnyQ.slices_SortFunc layT 3 Try.isAgg100 Try.sizeOf100 eE eE_len eT_cell cfT swo 83 #[] b 0 s.cap xs.toArray w eg (lays b 0 xs.toArray.size w) (holds hr) hr.lt (by rw [List.size_toArray]; omega)
  unfold c_slices_SortFunc_hash_entry_hash_entry
  rw [ha, hlen]
  change Calls Try.prog 82 #[.slice (some ⟨b, 0, none⟩) xs.length s.cap, .func (.func 83) #[] #[]] w _
  refine Calls.mono (show Calls Try.prog 82 #[.slice (some ⟨b, 0, none⟩) xs.toArray.size s.cap, .func (.func 83) #[] #[]] w _ from hcon) ?_
  rintro e w' ⟨rfl, d', n, os, ⟨hp1, _, hp3⟩, hso, rfl⟩
  have hsz : xs.toArray.size = xs.length := by simp
  have hp1 : d'.size = xs.length := hp1.trans hsz
  rw [hsz] at hp3
  have hdl : d'.toList.length = xs.length := hp1
  obtain ⟨g1, g2⟩ := row_of (n := n) (os := os) hr hp1
  have e1 : (d'.extract 0 xs.length).toList = d'.toList := by rw [← hp1]; simp
  have e2 : (xs.toArray.extract 0 xs.length).toList = xs := by simp
  rw [e1, e2] at hp3
  refine ⟨rfl, g2.mono fun c hcb => ⟨0, by rw [ha, hcb]⟩, d'.toList, hp3, ?_, ⟨?_, .inr ⟨b, pad, ha, ?_, g1⟩⟩⟩
  · rw [List.pairwise_iff_getElem]
    intro i j hi hj hij
    rw [Array.length_toList] at hi hj
    have := hso i j (Nat.zero_le _) hij (by rw [List.size_toArray]; omega)
    rw [getElem!_pos d' j hj, getElem!_pos d' i hi, ltCf] at this
    simpa using this
  · rw [hlen]; exact hdl.symm
  · rw [hc, hdl]
end Go.Proofs
