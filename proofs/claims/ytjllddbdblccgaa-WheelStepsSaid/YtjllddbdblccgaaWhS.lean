import Derived.Test.YtjllddbdblccgaaWh3
import Derived.Shelf.SlSortCmp.WholeK
/- Timers are sorted: the library's contract of slices.SortFunc, at this program. -/
namespace Go.Proofs
open Gp Gp.Wh
set_option maxRecDepth 100000

def layT_ren : Go.Shelf.Ren := ⟨fun | 6 => 93 | 15 => 96 | 14 => 101 | 28 => 111 | 29 => 112 | 20 => 114 | 21 => 115 | 22 => 116 | 23 => 117 | 24 => 118 | 25 => 119 | 26 => 120 | 27 => 121 | 46 => 128 | 47 => 123 | 48 => 124 | 49 => 129 | 50 => 130 | 57 => 132 | n => n, fun | 22 => 101 | 24 => 108 | 25 => 136 | 3 => 3 | 39 => 126 | 0 => 0 | 53 => 46 | 55 => 155 | 4 => 4 | 46 => 147 | 45 => 146 | 50 => 91 | 5 => 5 | 9 => 9 | 66 => 162 | 70 => 166 | 76 => 171 | 77 => 172 | n => n, fun | n => n⟩
theorem layT : SlLaysF0.n6 Try.prog layT_ren := {
  mixed := by kernel_rfl,
  f6 := ⟨Try.f93.name, by decide, Try.func93.trans (congrArg some (by kernel_rfl))⟩,
  f14 := ⟨Try.f101.name, by decide, Try.func101.trans (congrArg some (by kernel_rfl))⟩,
  f15 := Try.func96.trans (congrArg some (by kernel_rfl)),
  f20 := ⟨Try.f114.name, by decide, Try.func114.trans (congrArg some (by kernel_rfl))⟩,
  f21 := ⟨Try.f115.name, by decide, Try.func115.trans (congrArg some (by kernel_rfl))⟩,
  f22 := ⟨Try.f116.name, by decide, Try.func116.trans (congrArg some (by kernel_rfl))⟩,
  f23 := ⟨Try.f117.name, by decide, Try.func117.trans (congrArg some (by kernel_rfl))⟩,
  f24 := ⟨Try.f118.name, by decide, Try.func118.trans (congrArg some (by kernel_rfl))⟩,
  f25 := ⟨Try.f119.name, by decide, Try.func119.trans (congrArg some (by kernel_rfl))⟩,
  f26 := ⟨Try.f120.name, by decide, Try.func120.trans (congrArg some (by kernel_rfl))⟩,
  f27 := ⟨Try.f121.name, by decide, Try.func121.trans (congrArg some (by kernel_rfl))⟩,
  f28 := Try.func111.trans (congrArg some (by kernel_rfl)),
  f29 := Try.func112.trans (congrArg some (by kernel_rfl)),
  f46 := ⟨Try.f128.name, by decide, Try.func128.trans (congrArg some (by kernel_rfl))⟩,
  f47 := Try.func123.trans (congrArg some (by kernel_rfl)),
  f48 := Try.func124.trans (congrArg some (by kernel_rfl)),
  f49 := ⟨Try.f129.name, by decide, Try.func129.trans (congrArg some (by kernel_rfl))⟩,
  f50 := ⟨Try.f130.name, by decide, Try.func130.trans (congrArg some (by kernel_rfl))⟩,
  f57 := ⟨Try.f132.name, by decide, Try.func132.trans (congrArg some (by kernel_rfl))⟩,
  t0 := Try.underlying0,
  a0 := Try.isAgg0,
  z0 := Try.sizeOf0,
  v0 := Try.zeroValue0,
  t3 := Try.underlying3,
  a3 := Try.isAgg3,
  z3 := Try.sizeOf3,
  v3 := Try.zeroValue3,
  t4 := Try.underlying4,
  a4 := Try.isAgg4,
  z4 := Try.sizeOf4,
  v4 := Try.zeroValue4,
  t5 := Try.underlying5,
  a5 := Try.isAgg5,
  z5 := Try.sizeOf5,
  v5 := Try.zeroValue5,
  t9 := Try.underlying9,
  a9 := Try.isAgg9,
  z9 := Try.sizeOf9,
  v9 := Try.zeroValue9,
  t22 := Try.underlying101,
  a22 := Try.isAgg101,
  z22 := Try.sizeOf101,
  v22 := Try.zeroValue101,
  t25 := Try.underlying136,
  a25 := Try.isAgg136,
  z25 := Try.sizeOf136,
  v25 := Try.zeroValue136,
  t39 := Try.underlying126,
  a39 := Try.isAgg126,
  z39 := Try.sizeOf126,
  v39 := Try.zeroValue126,
  t45 := Try.underlying146,
  a45 := Try.isAgg146,
  z45 := Try.sizeOf146,
  v45 := Try.zeroValue146,
  t46 := Try.underlying147,
  a46 := Try.isAgg147,
  z46 := Try.sizeOf147,
  v46 := Try.zeroValue147,
  t50 := Try.underlying91,
  a50 := Try.isAgg91,
  z50 := Try.sizeOf91,
  v50 := Try.zeroValue91,
  t53 := Try.underlying46,
  a53 := Try.isAgg46,
  z53 := Try.sizeOf46,
  v53 := Try.zeroValue46,
  t55 := Try.underlying155,
  a55 := Try.isAgg155,
  z55 := Try.sizeOf155,
  v55 := Try.zeroValue155,
  t66 := Try.underlying162,
  a66 := Try.isAgg162,
  z66 := Try.sizeOf162,
  v66 := Try.zeroValue162,
  t70 := Try.underlying166,
  a70 := Try.isAgg166,
  z70 := Try.sizeOf166,
  v70 := Try.zeroValue166,
  t76 := Try.underlying171,
  a76 := Try.isAgg171,
  z76 := Try.sizeOf171,
  v76 := Try.zeroValue171,
  t77 := Try.underlying172,
  a77 := Try.isAgg172,
  z77 := Try.sizeOf172,
  v77 := Try.zeroValue172 }

namespace Srt
open Go.Shelf Go.RowKit Go.Lib Go.Sort
instance : Inhabited Tm := ⟨⟨0, 0, 0⟩⟩
theorem eT_cell (t : Tm) : ∀ v ∈ eT t, v.oneCell' = true := by
  intro v hv
  simp only [eT, List.mem_cons, List.not_mem_nil, or_false] at hv
  rcases hv with rfl | rfl | rfl <;> rfl

def cfT (x y : Tm) : Int := cmpI x.tn y.tn
theorem ltCf (x y : Tm) : ltOf cfT x y = decide (x.tn < y.tn) := by
  unfold ltOf cfT cmpI
  by_cases h1 : x.tn < y.tn
  · simp [h1]
  · by_cases h2 : x.tn > y.tn <;> simp [h1, h2]
theorem swo : SWO (ltOf cfT) where
  irrefl x := by rw [ltCf]; simp
  trans x y z h1 h2 := by rw [ltCf] at *; simp at *; omega
  ntrans x y z h1 h2 := by rw [ltCf] at *; simp at *; omega

theorem closure (x y : Tm) (W : World) : c_wheel_Wheel_due_3 x.id x.a x.tn y.id y.a y.tn W fun r W' => r = cfT x y ∧ ∃ q os', W' = grow (W.drewN q) os' := by
  apply ok_wheel_Wheel_due_3
  unfold s_wheel_Wheel_due_3 Al
  have r1 : Row (W.alloc (.cells ⟨eT x⟩ 108)) W.heap.size (eT x) := Row.new W (eT x) 108
  have x2 : Ext (W.alloc (.cells ⟨eT x⟩ 108)) ((W.alloc (.cells ⟨eT x⟩ 108)).alloc (.cells ⟨eT y⟩ 108)) := fun S => Fr8.alloc _ _ S
  have r2 := r1.ext x2
  have r3 : Row ((W.alloc (.cells ⟨eT x⟩ 108)).alloc (.cells ⟨eT y⟩ 108)) (W.alloc (.cells ⟨eT x⟩ 108)).heap.size (eT y) := Row.new _ (eT y) 108
  have c1 : ((W.alloc (.cells ⟨[.int .i64 x.id, .int .i64 (x.a : Int), .int .i64 x.tn]⟩ 108)).alloc (.cells ⟨[.int .i64 y.id, .int .i64 (y.a : Int), .int .i64 y.tn]⟩ 108)).cell? ⟨W.heap.size, 2, none⟩ = some (.int .i64 x.tn) := by
    have := r2.cell 2
    exact this
  have c2 : ((W.alloc (.cells ⟨[.int .i64 x.id, .int .i64 (x.a : Int), .int .i64 x.tn]⟩ 108)).alloc (.cells ⟨[.int .i64 y.id, .int .i64 (y.a : Int), .int .i64 y.tn]⟩ 108)).cell? ⟨(W.alloc (.cells ⟨[.int .i64 x.id, .int .i64 (x.a : Int), .int .i64 x.tn]⟩ 108)).heap.size, 2, none⟩ = some (.int .i64 y.tn) := by
    have := r3.cell 2
    exact this
  simp only [Ld_eq, add_mk, Nat.zero_add, c1, c2, LdV_some, dec_int]
  refine cm_cmp_Compare_int (compare_ok _ _ _) ?_
  rintro r W3 ⟨rfl, hw⟩
  subst hw
  exact ⟨rfl, 0, _, by rw [alloc_eq_grow, alloc_eq_grow, grow_grow]; rfl⟩

theorem lays (blk off size : Nat) (w : World) : CmpLays Try.prog 94 #[] eT 3 cfT blk off size w := by
  intro m os dk _ x y
  have h := closure x y (sortWorldK eT 3 w blk off m dk os)
  unfold c_wheel_Wheel_due_3 at h
  have e : (#[.agg (eT x).toArray, .agg (eT y).toArray] ++ #[] : Array Value) = ⟨[.agg ⟨eT x⟩, .agg ⟨eT y⟩]⟩ := by simp
  rw [e]
  refine Calls.mono h ?_
  rintro e W' ⟨r, he, rfl, hq⟩
  exact ⟨he, hq⟩

theorem flatK_get (d : Array Tm) {j : Nat} (hj : j < d.size * 3) : (flatK eT 3 d)[j]! = (d.toList.flatMap eT)[j]?.getD default := by
  rw [get_flatK eT 3 d j hj]
  have hlt : j / 3 < d.size := by omega
  have e := flat_get eT 3 eT_len d.toList (j / 3) (j % 3) (Nat.mod_lt _ (by omega))
  rw [show j / 3 * 3 + j % 3 = j by omega] at e
  rw [e, Array.getElem?_toList, Array.getElem?_eq_getElem hlt, getElem!_pos d _ hlt, Option.bind_some]
  rw [List.getElem!_eq_getElem?_getD]

theorem flat_getD {l : List Tm} {j : Nat} (hj : j < l.length * 3) : (l.flatMap eT)[j]? = some ((l.flatMap eT)[j]?.getD default) := by
  have hl := flat_len eT 3 eT_len l
  rw [List.getElem?_eq_getElem (by omega)]; rfl

theorem holds {w : World} {b : Nat} {xs : List Tm} {pad : List Value} (hr : Row w b (xs.flatMap eT ++ pad)) : HoldsK eT 3 w b 0 xs.toArray := by
  intro j hj
  rw [size_flatK] at hj
  have hl := flat_len eT 3 eT_len xs
  simp only [List.size_toArray] at hj
  refine ⟨?_, hr.frozen _⟩
  rw [Nat.zero_add, hr.cell, List.getElem?_append_left (by omega), flatK_get _ (by simpa using hj), List.toList_toArray]
  exact flat_getD hj

theorem row_of {w : World} {b n : Nat} {xs : List Tm} {pad : List Value} {d' : Array Tm} {os : Array Obj} (hr : Row w b (xs.flatMap eT ++ pad)) (hd : d'.size = xs.length) :
    Row (sortWorldK eT 3 w b 0 n d' os) b (d'.toList.flatMap eT ++ pad) ∧ Fr8 w (sortWorldK eT 3 w b 0 n d' os) (· = b) := by
  obtain ⟨T, ht⟩ := hr
  have hb : b < w.heap.size := (Array.getElem?_eq_some_iff.1 ht).1
  have hl := flat_len eT 3 eT_len xs
  have hl' : (d'.toList.flatMap eT).length = d'.size * 3 := by rw [flat_len eT 3 eT_len, Array.length_toList]
  have hh : (sortWorldK eT 3 w b 0 n d' os).heap = w.heap.modify b (onCells (putCells id 0 (flatK eT 3 d'))) ++ os := rfl
  constructor
  · refine ⟨T, ?_⟩
    rw [hh, Array.getElem?_append_left (by simpa using hb), Array.getElem?_modify, if_pos rfl, ht]
    have : putCells id 0 (flatK eT 3 d') ⟨xs.flatMap eT ++ pad⟩ = ⟨d'.toList.flatMap eT ++ pad⟩ := by
      apply Array.ext_getElem?
      intro k
      unfold putCells
      rw [Array.getElem?_mapIdx]
      simp only [size_flatK, Nat.zero_le, true_and, Nat.zero_add, Nat.sub_zero, id_eq, List.getElem?_toArray]
      by_cases hk : k < d'.size * 3
      · rw [List.getElem?_append_left (by omega), List.getElem?_append_left (by omega), flat_getD (l := xs) (by omega), Option.map_some, if_pos hk, flatK_get _ hk]
        exact (flat_getD (by rw [Array.length_toList]; exact hk)).symm
      · rw [List.getElem?_append_right (by omega), List.getElem?_append_right (by omega), hl, hl', hd]
        cases pad[k - xs.length * 3]? with
        | none => rfl
        | some v => rw [Option.map_some, if_neg (by rw [← hd]; exact hk)]
    simp only [Option.map_some, onCells, this]
  · refine ⟨?_, fun c hc hcb => ?_, ⟨rfl, rfl, rfl⟩⟩
    · rw [hh]; simp
    · rw [hh, Array.getElem?_append_left (by simpa using hc), Array.getElem?_modify, if_neg (fun e => hcb e.symm)]
end Srt

theorem lenZ (w : World) : c_math_bits_Len (IntKind.u64.wrap ((0 : Nat) : Int)) w fun r w' => r = 0 ∧ w' = w := by
  apply ok_math_bits_Len
  unfold s_math_bits_Len
  have h : c_math_bits_Len64 (IntKind.u64.wrap ((0 : Nat) : Int)) w fun r w' => r = 0 ∧ w' = w := by
    apply ok_math_bits_Len64
    unfold s_math_bits_Len64
    rw [show IntKind.u64.wrap ((0 : Nat) : Int) = 0 from rfl]
    simp only [show decide ((0 : Int) ≥ 4294967296) = false from rfl, show decide ((0 : Int) ≥ 65536) = false from rfl, show decide ((0 : Int) ≥ 256) = false from rfl, cond_false, show IntKind.u8.wrap 0 = 0 from rfl]
    exact ⟨0, by decide, rfl, rfl, by trivial⟩
  refine cm_math_bits_Len64 h ?_
  rintro r w' ⟨rfl, hw⟩
  exact ⟨rfl, hw⟩

theorem pdqZ (s : SliceV) (lim : Int) (v : Value) (w : World) : c_slices_pdqsortCmpFunc_wheel_timer s 0 ((0 : Nat) : Int) lim v w fun w' => w' = w := by
  apply ok_slices_pdqsortCmpFunc_wheel_timer
  unfold s_slices_pdqsortCmpFunc_wheel_timer
  refine LoopP_inv (fun st W => W = w ∧ st.1 = 0 ∧ st.2.1 = 0) (fun _ _ => 0) ⟨rfl, rfl, rfl⟩ ?_
  rintro ⟨a, b, c, d, e, ⟨⟩⟩ W ⟨rfl, ha, hb⟩ next hnext
  simp only at ha hb
  subst ha hb
  have : decide ((IntKind.i64.wrap ((0 : Int) - 0)) ≤ 12) = true := rfl
  rw [this, cond_true]
  have h : c_slices_insertionSortCmpFunc_wheel_timer s 0 0 v W fun w' => w' = W := by
    apply ok_slices_insertionSortCmpFunc_wheel_timer
    unfold s_slices_insertionSortCmpFunc_wheel_timer
    refine LoopP_inv (fun st W' => W' = W ∧ st.1 = 1) (fun _ _ => 0) ⟨rfl, rfl⟩ ?_
    rintro ⟨a, ⟨⟩⟩ W' ⟨rfl, ha⟩ next' hnext'
    simp only at ha
    subst ha
    have : decide ((1 : Int) < 0) = false := rfl
    rw [this, cond_false]
  refine cm_slices_insertionSortCmpFunc_wheel_timer h ?_
  rintro w' hw
  exact hw

open Srt in
theorem sortT_ok {w : World} {s : SliceV} {xs : List Tm} (hs : BufN 3 eT w s xs) (hl : xs.length ≤ 2 ^ 30) :
    c_slices_SortFunc_wheel_timer_wheel_timer s (Value.func (.func 94) #[] #[]) w fun w' => Fr8 w w' (SliceV.at s) ∧ ∃ ys : List Tm, ys.Perm xs ∧ ys.Pairwise (fun x y => ¬ y.tn < x.tn) ∧ BufN 3 eT w' s ys := by
  by_cases hne : s.a = none
  · have hx : xs = [] := by
      rcases hs.mem with ⟨_, h, _⟩ | ⟨b, pad, h, _⟩
      · exact h
      · rw [hne] at h; cases h
    subst hx
    have hlen : s.len = 0 := hs.len
    apply ok_slices_SortFunc_wheel_timer_wheel_timer
    unfold s_slices_SortFunc_wheel_timer_wheel_timer
    rw [hlen]
    refine cm_math_bits_Len (lenZ w) ?_
    rintro r w' ⟨rfl, hw⟩
    subst hw
    refine cm_slices_pdqsortCmpFunc_wheel_timer (pdqZ s _ _ _) ?_
    rintro w' hw
    subst hw
    exact ⟨Fr8.refl _ _, [], List.Perm.refl _, List.Pairwise.nil, hs⟩
  obtain ⟨b, pad, ha, hc, hr⟩ : ∃ b pad, s.a = some ⟨b, 0, none⟩ ∧ s.cap * 3 = xs.length * 3 + pad.length ∧ Row w b (xs.flatMap eT ++ pad) := by
    rcases hs.mem with ⟨h, _, _⟩ | h
    · exact absurd h hne
    · exact h
  have hlen := hs.len
  have eg : ∀ args w, (callFunc 94 args).run Try.prog w = .ok (.enter 94 args) w := enters_of Try.func94 (by kernel_rfl) rfl
  have hcon := AnyQ.slices_SortFunc layT 3 Try.isAgg108 Try.sizeOf108 eT eT_len eT_cell cfT swo 94 #[] b 0 s.cap xs.toArray w eg (lays b 0 xs.toArray.size w) (holds hr) hr.lt (by rw [List.size_toArray]; omega)
  unfold c_slices_SortFunc_wheel_timer_wheel_timer
  rw [ha, hlen]
  change Calls Try.prog 93 #[.slice (some ⟨b, 0, none⟩) xs.length s.cap, .func (.func 94) #[] #[]] w _
  refine Calls.mono (show Calls Try.prog 93 #[.slice (some ⟨b, 0, none⟩) xs.toArray.size s.cap, .func (.func 94) #[] #[]] w _ from hcon) ?_
  rintro e w' ⟨rfl, d', n, os, ⟨hp1, _, hp3⟩, hso, rfl⟩
  have hsz : xs.toArray.size = xs.length := by simp
  have hp1 : d'.size = xs.length := hp1.trans hsz
  rw [hsz] at hp3
  have hdl : d'.toList.length = xs.length := hp1
  obtain ⟨g1, g2⟩ := row_of (n := n) (os := os) hr hp1
  have e1 : (d'.extract 0 xs.length).toList = d'.toList := by rw [← hp1]; simp
  have e2 : (xs.toArray.extract 0 xs.length).toList = xs := by simp
  rw [e1, e2] at hp3
  refine ⟨rfl, g2.mono fun c hcb => ⟨0, by rw [ha, hcb]⟩, d'.toList, hp3, ?_, ⟨?_, .inr ⟨b, pad, ha, ?_, g1⟩⟩⟩
  · rw [List.pairwise_iff_getElem]
    intro i j hi hj hij
    rw [Array.length_toList] at hi hj
    have := hso i j (Nat.zero_le _) hij (by rw [List.size_toArray]; omega)
    rw [getElem!_pos d' j hj, getElem!_pos d' i hi, ltCf] at this
    simpa using this
  · rw [hlen]; exact hdl.symm
  · rw [hc, hdl]
end Go.Proofs
