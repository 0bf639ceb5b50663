import Derived.Test.YtcoolonmnjacfaaJN7
/- Keys in their order, and time that passes. -/
namespace Go.Proofs
open Gp Gp.Hol Gp.Jn
set_option maxRecDepth 100000
set_option maxHeartbeats 2000000

theorem sortK_perm {a b : List Key} (h : a.Perm b) : sortK a = sortK b := srtK_one (sortK_ok a).1 (sortK_ok b).1 (((sortK_ok a).2.trans h).trans (sortK_ok b).2.symm)

theorem perm_erase {γ : Type} : ∀ {L : List γ} {i : Nat} {x : γ}, L[i]? = some x → L.Perm (x :: L.eraseIdx i)
  | [], _, _, h => by simp at h
  | y :: L, 0, x, h => by
    rw [List.getElem?_cons_zero] at h
    cases h
    rw [List.eraseIdx_cons_zero]
  | y :: L, i + 1, x, h => by
    rw [List.getElem?_cons_succ] at h
    rw [List.eraseIdx_cons_succ]
    exact ((perm_erase h).cons y).trans (List.Perm.swap x y _)

theorem tab_keys (rs : List (Key × JE)) : (jtab rs).map (·.1) = rs.map (·.1) := by
  unfold jtab
  rw [List.map_map]
  rfl

/-- A key is put behind the others. -/
theorem app_key {w : World} {s : SliceV} {xs : List Key} (h : BufN 1 eK w s xs) (k : Key) (hl : xs.length ≤ 2 ^ 30) {K : SliceV → World → Prop}
    (hK : ∀ s' w', BufN 1 eK w' s' (xs ++ [k]) → Fr8 w w' (SliceV.at s) → (∀ b, SliceV.at s' b → SliceV.at s b ∨ w.heap.size ≤ b) → K s' w') :
    Al w (.cells ⟨[(Value.string k)]⟩ 9) fun a w1 => AppSl 9 1 16 [(Value.string (bs []))] s ⟨(some a), 1, 1⟩ w1 K := by
  refine Al_e fun b w1 r1 e1 z1 f1 => ?_
  have ht : SlN 1 eK w1 ⟨some ⟨b, 0, none⟩, 1, 1⟩ [k] := (BufN.row (xs := [k]) (f := eK) (n := 1) r1).sl eK_len (by omega)
  refine AppSl_bufN eK_len (h.ext f1) ht rfl (by omega) eK_one (by simp only [List.length_singleton]; omega) (by simp only [List.length_singleton]; omega) fun s' w' h1 h2 h3 => hK s' w' h1 (f1.fr h2) fun c hc => (h3 c hc).imp id fun g => ?_
  have := f1.size
  omega

section
variable {w w' : World} {t m : Nat} {many bytes wait : Int} {rs : List (Key × JE)}

theorem keys_ok (h : JAt w t m many bytes wait rs) (hl : rs.length ≤ 2 ^ 29) :
    c_join_Table_Keys (some ⟨t, 0, none⟩) w fun r w' => Ext w w' ∧ BufN 1 eK w' r (jkeys (jtab rs)) ∧ ∀ b, SliceV.at r b → w.heap.size ≤ b := by
  apply ok_join_Table_Keys
  unfold s_join_Table_Keys
  refine cm_join_Table_ready (jready_ok h) ?_
  rintro r w0 ⟨rfl, hw⟩
  subst hw
  rw [Bool.not_true, cond_false]
  simp only [ex_some, Ld_eq, List.getElem?_cons_zero, LdV_some, dec_map, h.row.cell]
  refine RngMap_F h.map fun w1 hit f1 z1 => ?_
  have hml := h.map.lt
  have hqm : w0.heap.size ≠ m := by omega
  refine LoopP_inv (fun st W => ∃ todo done, ItF encKy evBf W w0.heap.size m rs todo ∧ BufN 1 eK W st.1 done ∧ (done ++ todo.map (·.1)).Perm (rs.map (·.1)) ∧ Fr8 w1 W (fun z => z = w0.heap.size) ∧ ∀ b, SliceV.at st.1 b → w1.heap.size ≤ b) (fun _ W => leftM W w0.heap.size m)
    ⟨rs, [], hit, BufN.nil, List.Perm.refl _, Fr8.refl _ _, fun b hb => (no_at hb).elim⟩ ?_
  rintro ⟨s, ⟨⟩⟩ W ⟨todo, done, hi, hb, hp, hf, hn⟩ next hnext
  simp only at hb hn
  have hdl : done.length ≤ rs.length := by
    have := hp.length_eq
    simp only [List.length_append, List.length_map] at this
    omega
  refine ⟨rfl, NextM_F hi hqm (fun ht => ?_) fun i x w2 hx hi2 hcur f2 z2 => ⟨rfl, hcur _ ?_⟩⟩
  · subst ht
    refine cm_slices_Sort_string_string (sortS_ok hb (by omega)) ?_
    rintro w3 ⟨f3, b3⟩
    rw [List.map_nil, List.append_nil] at hp
    have e : sortK done = jkeys (jtab rs) := by
      unfold jkeys
      rw [tab_keys]
      exact sortK_perm hp
    rw [e] at b3
    have fW : Ext w0 W := f1.new hf fun y hy e => by omega
    exact ⟨fW.new f3 fun y hy e => by have := hn y e; omega, b3, fun b hb' => by have := hn b hb'; omega⟩
  · rw [show encKy x.1 = Value.string x.1 from rfl, dec_str]
    have hb2 : BufN 1 eK w2 s done := hb.fr f2 fun b hb' e => by have := hn b hb'; omega
    refine app_key hb2 x.1 (by omega) fun s' w3 h1 h2 h3 => ?_
    have hi3 : ItF encKy evBf w3 w0.heap.size m rs (todo.eraseIdx i) := hi2.fr h2 (fun e => by have := hn _ e; omega) (fun e => by have := hn _ e; omega)
    have s1 := hf.size
    refine hnext _ _ ⟨todo.eraseIdx i, done ++ [x.1], hi3, h1, ?_, (hf.trans f2 fun _ _ e => e).trans h2 fun y hy e => by have := hn y e; omega, fun b hb' => ?_⟩ ?_
    · have hpe := (perm_erase hx).map (fun e : Key × JE => e.1)
      rw [List.map_cons] at hpe
      have := (List.Perm.append_left done hpe).symm.trans hp
      rwa [List.append_assoc, List.singleton_append]
    · rcases h3 b hb' with g | g
      · exact hn b g
      · omega
    · rw [hi3.left, hi.left, List.length_eraseIdx]
      have := (List.getElem?_eq_some_iff.1 hx).1
      rw [if_pos this]
      omega

/-- Whether a buffer's key is among some. -/
def inK (g : List Key) (x : Key × JE) : Bool := g.any fun k => decide (k = x.1)
theorem inK_iff {g : List Key} {x : Key × JE} : inK g x = true ↔ x.1 ∈ g := by
  unfold inK
  rw [List.any_eq_true]
  exact ⟨fun ⟨k, h, e⟩ => (of_decide_eq_true e) ▸ h, fun h => ⟨_, h, decide_eq_true rfl⟩⟩
def ovE (wait now : Int) (x : Key × JE) : Bool := decide (x.2.2.since ≤ now - wait)

theorem tab_filter (p : Key × Bf → Bool) (rs : List (Key × JE)) : jtab (rs.filter fun e => p (e.1, e.2.2)) = (jtab rs).filter p := by
  unfold jtab
  rw [List.filter_map]
  rfl

theorem del_filter (hn : (rs.map (·.1)).Nodup) (k : Key) : delF rs k = rs.filter fun x => !decide (x.1 = k) := by
  induction rs with
  | nil => rfl
  | cons y l ih =>
    rw [List.map_cons, List.nodup_cons] at hn
    rw [delF_cons]
    by_cases hk : k = y.1
    · rw [if_pos hk, List.filter_cons_of_neg (by rw [decide_eq_true hk.symm]; simp)]
      refine (List.filter_eq_self.2 fun x hx => ?_).symm
      rw [decide_eq_false fun e => hn.1 (by rw [← hk, ← e]; exact List.mem_map_of_mem hx)]
      rfl
    · rw [if_neg hk, List.filter_cons_of_pos (by rw [decide_eq_false fun e => hk e.symm]; rfl), ih hn.2]

theorem JAt.filt {p : Key × JE → Bool} (h : JAt w t m many bytes wait rs) (hr : Row w' t [.map (some m), .int .i64 many, .int .i64 bytes, .int .i64 wait]) (hm : MapF encKy evBf w' m (rs.filter p)) (hb : ∀ e ∈ rs, BAt w' e.2) : JAt w' t m many bytes wait (rs.filter p) :=
  ⟨hr, hm, fun e he => hb e (List.mem_filter.1 he).1, h.dis.sublist List.filter_sublist, fun e he => h.apart e (List.mem_filter.1 he).1, h.tm, h.nodup.sublist (List.filter_sublist.map _)⟩

theorem key_one (hn : (rs.map (·.1)).Nodup) {x y : Key × JE} (hx : x ∈ rs) (hy : y ∈ rs) (e : x.1 = y.1) : x = y := by
  rw [List.Nodup, List.pairwise_map] at hn
  refine Classical.byContradiction fun hne => ?_
  rcases pw_ne hn hx hy hne with g | g
  · exact g e
  · exact g e.symm

theorem encK_inj : ∀ a b : Key, encKy a = encKy b → a = b := fun a b h => by cases h; rfl

theorem expire_ok (h : JAt w t m many bytes wait rs) (hl : rs.length ≤ 2 ^ 29) {now : Int} (hw1 : 1 ≤ wait) (hnow : now ≤ 9223372036854775807) :
    c_join_Table_Expire (some ⟨t, 0, none⟩) now w fun r w' => (∃ rs', JAt w' t m many bytes wait rs' ∧ jtab rs' = (jexpire wait now (jtab rs)).2 ∧ rs'.Sublist rs) ∧ BufN 1 eK w' r (jexpire wait now (jtab rs)).1 ∧ Fr8 w w' (· = m) ∧ ∀ b, SliceV.at r b → w.heap.size ≤ b := by
  apply ok_join_Table_Expire
  unfold s_join_Table_Expire
  intro J
  refine cm_join_Table_ready (jready_ok h) ?_
  rintro r w0 ⟨rfl, hw⟩
  subst hw
  rw [Bool.not_true, cond_false]
  simp -zeta only [ex_some, Ld_eq, List.getElem?_cons_zero, List.getElem?_cons_succ, LdV_some, dec_int, add_mk, Nat.zero_add, h.row.cell]
  by_cases hlt : now < wait
  · rw [decide_eq_true hlt]
    simp only [J, cond_true]
    unfold jexpire
    rw [if_pos hlt]
    exact ⟨⟨rs, h, rfl, List.Sublist.refl _⟩, BufN.nil, Fr8.refl _ _, fun b hb => (no_at hb).elim⟩
  rw [decide_eq_false hlt]
  simp only [J, cond_false]
  clear J
  unfold jexpire
  rw [if_neg hlt]
  simp only
  simp only [ex_some, Ld_eq, List.getElem?_cons_zero, LdV_some, dec_map, add_mk, Nat.zero_add, h.row.cell]
  refine RngMap_F h.map fun w1 hit f1 z1 => ?_
  have hml := h.map.lt
  have htl := h.row.lt
  have hqm : w0.heap.size ≠ m := by omega
  refine LoopP_inv (fun st W => ∃ todo gone, ItF encKy evBf W w0.heap.size m (rs.filter fun e => !inK gone e) todo ∧ BufN 1 eK W st.1 gone ∧ (gone ++ (todo.filter (ovE wait now)).map fun e : Key × JE => e.1).Perm ((rs.filter (ovE wait now)).map fun e : Key × JE => e.1) ∧ (∀ e ∈ todo, e ∈ rs) ∧ (todo.map (·.1)).Nodup ∧ Fr8 w1 W (fun z => z = w0.heap.size ∨ z = m) ∧ ∀ b, SliceV.at st.1 b → w1.heap.size ≤ b) (fun _ W => leftM W w0.heap.size m)
    ⟨rs, [], ?_, BufN.nil, List.Perm.refl _, fun e he => he, h.nodup, Fr8.refl _ _, fun b hb => (no_at hb).elim⟩ ?_
  · have : (rs.filter fun e => !inK [] e) = rs := List.filter_eq_self.2 fun x _ => by simp [inK]
    rw [this]
    exact hit
  rintro ⟨s, ⟨⟩⟩ W ⟨todo, gone, hi, hb, hp, hsub, hnd, hf, hn⟩ next hnext
  simp only at hb hn
  have fm : ∀ W', Fr8 w1 W' (fun z => z = w0.heap.size ∨ z = m) → Fr8 w0 W' (· = m) := fun W' g => (f1 _).trans g fun y hy e => by
    rcases e with e | e
    · omega
    · exact e
  have hbW : ∀ W', Fr8 w0 W' (· = m) → ∀ e ∈ rs, BAt W' e.2 := fun W' g e he => (h.bufs e he).fr g fun z hz e' => (h.apart e he z hz).2 e'
  have hdl : gone.length ≤ rs.length := by
    have := hp.length_eq
    simp only [List.length_append, List.length_map] at this
    have := List.length_filter_le (ovE wait now) rs
    omega
  have s1 := hf.size
  refine ⟨rfl, NextM_F hi hqm (fun ht => ?_) fun i x w2 hx hi2 hcur f2 z2 => ⟨rfl, hcur _ ?_⟩⟩
  · subst ht
    refine cm_slices_Sort_string_string (sortS_ok hb (by omega)) ?_
    rintro w3 ⟨f3, b3⟩
    rw [List.filter_nil, List.map_nil, List.append_nil] at hp
    have e1 : sortK gone = sortK (((jtab rs).filter (over wait now)).map (·.1)) := by
      rw [sortK_perm hp, ← tab_filter (over wait now), tab_keys]
      rfl
    rw [e1] at b3
    have fW : Fr8 w0 w3 (· = m) := (fm W hf).trans f3 fun y hy e => by have := hn y e; omega
    have e2 : (rs.filter fun e => !inK gone e) = rs.filter fun e => !over wait now (e.1, e.2.2) := by
      refine List.filter_congr fun e he => ?_
      congr 1
      rw [Bool.eq_iff_iff, inK_iff]
      unfold over
      rw [decide_eq_true_iff, hp.mem_iff, List.mem_map]
      constructor
      · rintro ⟨y, hy, hye⟩
        obtain ⟨y1, y2⟩ := List.mem_filter.1 hy
        have : y = e := key_one h.nodup y1 he hye
        subst this
        simpa [ovE] using y2
      · exact fun g => ⟨e, List.mem_filter.2 ⟨he, by simpa [ovE] using g⟩, rfl⟩
    have hit3 := (hi.map.fr f3 fun e => by have := hn _ e; omega)
    rw [e2] at hit3
    refine ⟨⟨_, h.filt (h.row.fr fW h.tm) hit3 (hbW w3 fW), tab_filter (fun x => !over wait now x) rs, List.filter_sublist⟩, b3, fW, fun b hb' => by have := hn b hb'; omega⟩
  · have hxr := hsub x (List.mem_of_getElem? hx)
    have f12 : Fr8 w1 w2 (fun z => z = w0.heap.size ∨ z = m) := hf.trans f2 fun _ _ e => .inl e
    have hB := hbW w2 (fm w2 f12) x hxr
    have ht2 := h.row.fr (fm w2 f12) h.tm
    have hBd := hB.row.drew
    have htd := ht2.drew
    refine ⟨_, rfl, ?_⟩
    simp -zeta only [List.getElem?_cons_zero, List.getElem?_cons_succ, LdV_some, dec_int, add_mk, Nat.zero_add, hBd.cell, htd.cell]
    have he := perm_erase hx
    have hek := he.map (fun e : Key × JE => e.1)
    rw [List.map_cons] at hek
    have hek2 := List.nodup_cons.1 (hek.nodup_iff.1 hnd)
    have hlx := (List.getElem?_eq_some_iff.1 hx).1
    rw [wrap_i64 (by omega) (by omega)]
    have hb2 : BufN 1 eK w2.drew s gone := (hb.fr f2 fun b hb' e => by have := hn b hb'; omega).ext (Ext.drew _)
    have hid := hi2.ext (Ext.drew w2)
    have zd : w2.drew.heap.size = w2.heap.size := rfl
    have sub' : ∀ e ∈ todo.eraseIdx i, e ∈ rs := fun e he => hsub e (List.mem_of_mem_eraseIdx he)
    by_cases hov : x.2.2.since ≤ now - wait
    · rw [decide_eq_true hov, cond_true]
      refine app_key hb2 x.1 (by omega) fun s' w3 h1 h2 h3 => ?_
      have ht3 := htd.fr h2 fun e => by have := hn _ e; omega
      simp -zeta only [List.getElem?_cons_zero, LdV_some, dec_map, ht3.cell]
      have hi3 := hid.fr h2 (fun e => by have := hn _ e; omega) (fun e => by have := hn _ e; omega)
      refine MapDel_It hi3 hqm eqS encK_inj x.1 (keyS x.1) hek2.1 fun w4 hi4 f4 z4 => ?_
      have hn3 : ∀ b, SliceV.at s' b → w1.heap.size ≤ b := fun b hb' => by
        rcases h3 b hb' with g | g
        · exact hn b g
        · omega
      have efl : delF (rs.filter fun e => !inK gone e) x.1 = rs.filter fun e => !inK (gone ++ [x.1]) e := by
        rw [del_filter (h.nodup.sublist (List.filter_sublist.map _)), List.filter_filter]
        refine List.filter_congr fun e _ => ?_
        rw [Bool.eq_iff_iff, Bool.and_eq_true, Bool.not_eq_true', Bool.not_eq_true', Bool.not_eq_true', ← Bool.not_eq_true (inK _ _), ← Bool.not_eq_true (inK _ _), inK_iff, inK_iff, decide_eq_false_iff_not, List.mem_append, List.mem_singleton]
        exact ⟨fun ⟨h1, h2⟩ h => h.elim h2 h1, fun h => ⟨fun h1 => h (.inr h1), fun h2 => h (.inl h2)⟩⟩
      rw [efl] at hi4
      refine hnext _ _ ⟨todo.eraseIdx i, gone ++ [x.1], hi4, h1.fr f4 fun b hb' e => by have := hn3 b hb'; omega, ?_, sub', hek2.2, ((f12.ext (Ext.drew w2)).trans h2 fun y hy e => by have := hn y e; omega).trans f4 fun y hy e => .inr e, hn3⟩ ?_
      · have hpf := (he.filter (ovE wait now)).map (fun e : Key × JE => e.1)
        rw [List.filter_cons_of_pos (by simpa [ovE] using hov), List.map_cons] at hpf
        have := (List.Perm.append_left gone hpf).symm.trans hp
        rwa [List.append_assoc, List.singleton_append]
      · rw [hi4.left, hi.left, List.length_eraseIdx, if_pos hlx]
        omega
    · rw [decide_eq_false hov, cond_false]
      refine hnext _ _ ⟨todo.eraseIdx i, gone, hid, hb2, ?_, sub', hek2.2, f12.ext (Ext.drew w2), hn⟩ ?_
      · have hpf := (he.filter (ovE wait now)).map (fun e : Key × JE => e.1)
        rw [List.filter_cons_of_neg (by simpa [ovE] using hov)] at hpf
        exact (List.Perm.append_left gone hpf).symm.trans hp
      · rw [hid.left, hi.left, List.length_eraseIdx, if_pos hlx]
        omega
end
end Go.Proofs
