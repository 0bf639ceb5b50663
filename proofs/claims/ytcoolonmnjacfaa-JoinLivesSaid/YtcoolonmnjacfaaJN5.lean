import Derived.Test.YtcoolonmnjacfaaJN4
/- A new table, and the table that wakes. -/
namespace Go.Proofs
open Gp Gp.Hol Gp.Jn
set_option maxRecDepth 100000
set_option maxHeartbeats 1000000

theorem within_ok (n lo hi : Int) {w : World} {K : Value → World → Prop} (hK : K (.bool (decide (lo ≤ n ∧ n ≤ hi))) w) :
    CallV Try.prog [.one .bool] (Value.func (.func 22) #[] #[]) [.int .i64 n, .int .i64 lo, .int .i64 hi] w K := by
  refine callV_plain (by kernel_rfl) ?_
  refine Calls.mono (ok_join_New_1 (a0 := n) (a1 := lo) (a2 := hi) (w := w) (K := fun r W' => r = decide (lo ≤ n ∧ n ≤ hi) ∧ W' = w) ?_) ?_
  · unfold s_join_New_1
    by_cases h1 : lo ≤ n
    · rw [decide_eq_true (show n ≥ lo from h1)]
      simp only [cond_true]
      by_cases h2 : n ≤ hi
      · rw [decide_eq_true h2, decide_eq_true ⟨h1, h2⟩]; exact ⟨by trivial, by trivial⟩
      · rw [decide_eq_false h2, decide_eq_false fun h => h2 h.2]; exact ⟨by trivial, by trivial⟩
    · rw [decide_eq_false (show ¬ n ≥ lo from h1)]
      simp only [cond_false]
      rw [decide_eq_false fun h => h1 h.1]; exact ⟨by trivial, by trivial⟩
  · rintro e W' ⟨r, he, rfl, hw⟩
    subst hw
    exact ⟨_, he, hK⟩

def newOk (a b c : Int) : Prop := (0 ≤ a ∧ a ≤ 1073741824) ∧ (0 ≤ b ∧ b ≤ 1073741824) ∧ 1 ≤ c ∧ c ≤ 1099511627776

theorem jnew_ok (a b c : Int) (w : World) : c_join_New a b c w fun t e w' => (¬ newOk a b c ∧ t = none ∧ e = 1 ∧ w' = w) ∨
    (newOk a b c ∧ e = 0 ∧ ∃ t' m, t = some ⟨t', 0, none⟩ ∧ JAt w' t' m a b c [] ∧ w.heap.size ≤ t' ∧ w.heap.size ≤ m ∧ Ext w w') := by
  apply ok_join_New
  unfold s_join_New
  intro J4
  have hT : ¬ newOk a b c → J4 true w := fun h => by
    simp only [J4, cond_true]
    exact .inl ⟨h, by trivial, by trivial, by trivial⟩
  have hF : newOk a b c → J4 false w := fun h => by
    simp only [J4, cond_false]
    unfold Al
    have x1 : Ext w (w.alloc (.map #[] 0)) := fun S => Fr8.alloc _ _ S
    have m1 : MapF encKy evBf (w.alloc (.map #[] 0)) w.heap.size [] := MapF.new w _ _
    have x2 : Ext (w.alloc (.map #[] 0)) ((w.alloc (.map #[] 0)).alloc (.cells ⟨[.map (some w.heap.size), .int .i64 a, .int .i64 b, .int .i64 c]⟩ 41)) := fun S => Fr8.alloc _ _ S
    have r2 : Row ((w.alloc (.map #[] 0)).alloc (.cells ⟨[.map (some w.heap.size), .int .i64 a, .int .i64 b, .int .i64 c]⟩ 41)) (w.alloc (.map #[] 0)).heap.size [.map (some w.heap.size), .int .i64 a, .int .i64 b, .int .i64 c] := Row.new _ _ 41
    have z1 : (w.alloc (.map #[] 0)).heap.size = w.heap.size + 1 := Array.size_push ..
    refine .inr ⟨h, by trivial, (w.alloc (.map #[] 0)).heap.size, w.heap.size, rfl, ⟨r2, m1.ext x2, fun e he => by simp at he, List.Pairwise.nil, fun e he => by simp at he, by omega, List.nodup_nil⟩, by omega, Nat.le_refl _, x1.trans x2⟩
  clear_value J4
  refine within_ok a 0 1073741824 ⟨_, rfl, ?_⟩
  by_cases h1 : 0 ≤ a ∧ a ≤ 1073741824
  · rw [decide_eq_true h1, Bool.not_true, cond_false]
    refine within_ok b 0 1073741824 ⟨_, rfl, ?_⟩
    by_cases h2 : 0 ≤ b ∧ b ≤ 1073741824
    · rw [decide_eq_true h2, Bool.not_true, cond_false]
      refine within_ok c 1 1099511627776 ⟨_, rfl, ?_⟩
      by_cases h3 : 1 ≤ c ∧ c ≤ 1099511627776
      · rw [decide_eq_true h3, Bool.not_true]; exact hF ⟨h1, h2, h3⟩
      · rw [decide_eq_false h3, Bool.not_false]; exact hT fun h => h3 h.2.2
    · rw [decide_eq_false h2, Bool.not_false, cond_true]; exact hT fun h => h2 h.2.1
  · rw [decide_eq_false h1, Bool.not_false, cond_true]; exact hT fun h => h1 h.1

theorem strEq_bb (a b : ByteArray) : strEq a b = decide (a = b) := strEqS a b

/-- What the table that wakes has been told. -/
theorem aw1 : jadd 1 100 [] (bs [97]) 8 false [98] (bs [121]) 0 = ⟨⟨#[]⟩, false, 0, [(bs [97], ⟨0, ⟨#[]⟩, false, [(8, false, [98])]⟩)]⟩ := by kernel_rfl
theorem aw2 : jadd 1 100 [(bs [97], ⟨0, ⟨#[]⟩, false, [(8, false, [98])]⟩)] (bs [97]) 0 true [49, 50, 51, 52, 53, 54, 55, 56] (bs [120]) 0 = ⟨bs [120], true, 0, []⟩ := by kernel_rfl

theorem awake16_ok (w : World) : c_law16_awake w fun r w' => r = true ∧ Ext w w' := by
  apply ok_law16_awake
  unfold s_law16_awake
  refine cm_join_New (jnew_ok 1 100 60 w) ?_
  rintro t e w1 (⟨h, _⟩ | ⟨_, rfl, t', m, rfl, J, ht, hm, f1⟩)
  · exact absurd ⟨by decide, by decide, by decide⟩ h
  simp only [Option.isNone_some, cond_false, show ((0 : Int) != 0) = false from rfl]
  refine Al_e fun a w2 ra ea z2 f2 => MarkSl_row (l := [98]) ra fun w3 h3 f3 => ?_
  have htl := J.row.lt
  have hml := J.map.lt
  have J3 := (J.ext f2).fr f3 (by omega) (by omega) (fun e he => by simp at he)
  have e3 : Ext w w3 := (f1.trans f2).new f3 fun c hc e => by have := f1.size; omega
  refine cm_join_Table_Add (jadd_ok J3 (by omega) (by omega) (by decide) (N := 0) (by omega) (fun x hx => by simp at hx) h3 (by decide) (bs [97]) 8 false (bs [121]) 0) ?_
  rintro hd1 all1 done1 er1 w4 ⟨⟨rs4, J4, t4, n4, o4⟩, ⟨rfl, rfl, rfl⟩, _, _, f4⟩
  have ej : jtab ([] : List (Key × JE)) = [] := rfl
  rw [ej, aw1] at t4 ⊢
  have e4 : Ext w w4 := e3.new f4 fun c hc e => by
    rcases e with e | ⟨y, hy, _⟩
    · omega
    · simp at hy
  refine Al_e fun b w5 rb eb z5 f5 => MarkSl_row (l := [49, 50, 51, 52, 53, 54, 55, 56]) rb fun w6 h6 f6 => ?_
  have s3 := f3.size
  have s4 := f4.size
  have J6 := (J4.ext f5).fr f6 (by omega) (by omega) (fun e he z hz h => by have := (J4.bufs e he).lt hz; omega)
  have e6 : Ext w w6 := (e4.trans f5).new f6 fun c hc e => by have := e4.size; omega
  have hs : jsum (jtab rs4) = 1 := by rw [t4]; rfl
  refine cm_join_Table_Add (jadd_ok J6 (by omega) (by omega) (by omega) (N := 1) (by omega) n4 h6 (by decide) (bs [97]) 0 true (bs [120]) 0) ?_
  rintro hd2 all2 done2 er2 w7 ⟨⟨rs7, J7, t7, _, _⟩, ⟨rfl, rfl, rfl⟩, hwh, _, f7⟩
  rw [t4, aw2] at t7 hwh ⊢
  obtain ⟨x, l, hx, hp, hs7, h7, _⟩ := hwh rfl
  have hx' : x = ⟨0, ⟨#[]⟩, false, [(8, false, [98])]⟩ := by
    have : jopen 1 [(bs [97], (⟨0, ⟨#[]⟩, false, [(8, false, [98])]⟩ : Bf))] (bs [97]) 0 = some ⟨0, ⟨#[]⟩, false, [(8, false, [98])]⟩ := rfl
    rw [this] at hx; cases hx; rfl
  subst hx'
  have hp : l.Perm [(8, false, [98]), (0, true, [49, 50, 51, 52, 53, 54, 55, 56])] := hp
  have e7 : Ext w w7 := e6.new f7 fun c hc e => by
    rcases e with e | ⟨y, hy, hz⟩
    · omega
    · rcases o4 y hy c hz with ⟨y', hy', _⟩ | g
      · simp at hy'
      · have := e3.size; omega
  have G : Gp.Hol.Good l := by
    have g := (Gp.Hol.Good.nil.add' (8, false, [98])).add' (0, true, [49, 50, 51, 52, 53, 54, 55, 56])
    have e : (Gp.Hol.add (Gp.Hol.add [] (8, false, [98])).2 (0, true, [49, 50, 51, 52, 53, 54, 55, 56])).2 = [(8, false, [98]), (0, true, [49, 50, 51, 52, 53, 54, 55, 56])] := rfl
    rw [e] at g
    exact g.perm hp.symm
  have hc := (cat9 G hs7 hp).2.2
  rw [hc] at h7
  have hr7 : rs7 = [] := by
    cases rs7 with
    | nil => rfl
    | cons y l => simp [jtab] at t7
  subst hr7
  simp only [Bool.not_false, cond_true, show ((0 : Int) == 0) = true from rfl, strEqS, decide_true]
  refine bytesStr_of h7 ?_
  rw [show (⟨⟨[49, 50, 51, 52, 53, 54, 55, 56, 98]⟩⟩ : ByteArray) = bs [49, 50, 51, 52, 53, 54, 55, 56, 98] from rfl]
  simp only [decide_true, cond_true]
  refine cm_join_Table_Bufs (jbufs_ok J7) ?_
  rintro r w8 ⟨rfl, hw⟩
  subst hw
  exact ⟨rfl, e7⟩
end Go.Proofs
