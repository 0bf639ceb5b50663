import Derived.Test.YtjllddbdblccgaaWhS
/- A wheel: who goes off. -/
namespace Go.Proofs
open Gp Gp.Wh
set_option maxRecDepth 100000

abbrev eI (x : Int) : List Value := [.int .i64 x]
theorem eI_len (x : Int) : (eI x).length = 1 := rfl
theorem eI_one (x : Int) : ∀ v ∈ eI x, isOne v = true := by intro v hv; rw [List.mem_singleton.1 hv]; rfl

theorem del_len {l : PL} {id : Int} {t : Tm} (h : lkF l id = some t) : (delF l id).length + 1 = l.length := by
  induction l with
  | nil => cases h
  | cons x l ih =>
    unfold delF
    unfold lkF at h
    by_cases hx : id = x.1
    · rw [if_pos hx]; simp
    · rw [if_neg hx] at h ⊢
      simp only [List.length_cons]
      have := ih h; omega

section
variable {w w' : World} {d m : Nat} {ss : List SliceV} {l : PL} {now : Nat} {tn most : Int} {F : Fs}

/-- The pointer to the wheel, and the wheel's time. -/
def SeesNow (p d now : Nat) (W : World) : Prop := Row W p [.pointer (some ⟨d, 0, none⟩)] ∧ W.cell? ⟨d, 449, none⟩ = some (.int .i64 (now : Int))
theorem SeesNow.ext {p d now : Nat} {W W' : World} (h : SeesNow p d now W) (hx : Ext W W') : SeesNow p d now W' := ⟨h.1.ext hx, cell_ext h.2 hx⟩

theorem notNow (p d now : Nat) : FnT (Value.func (.func 91) #[] #[.pointer (some ⟨p, 0, none⟩)]) (SeesNow p d now) (fun x => (x.a : Int) != (now : Int)) := by
  intro x W K hC hK
  refine callV_fn (by kernel_rfl) ?_
  have : c_wheel_Wheel_due_1 x.id x.a x.tn ⟨p, 0, none⟩ W fun r W' => r = ((x.a : Int) != (now : Int)) ∧ Ext W W' := by
    apply ok_wheel_Wheel_due_1
    unfold s_wheel_Wheel_due_1
    refine Al_e fun q W1 q1 _ _ g1 => ?_
    have y := g1.trans (Ext.drew W1)
    have hC' := hC.ext y
    simp only [ex_some, Ld_eq, List.getElem?_cons_zero, List.getElem?_cons_succ, LdV_some, dec_int, dec_ptr, add_mk, Nat.zero_add, q1.drew.cell, hC'.1.cell, hC'.2]
    exact ⟨by trivial, y⟩
  refine Calls.mono this ?_
  rintro e W' ⟨r, he, rfl, hf⟩
  exact ⟨_, he, hK W' hf⟩

theorem isNow (p d now : Nat) : FnT (Value.func (.func 92) #[] #[.pointer (some ⟨p, 0, none⟩)]) (SeesNow p d now) (fun x => (x.a : Int) == (now : Int)) := by
  intro x W K hC hK
  refine callV_fn (by kernel_rfl) ?_
  have : c_wheel_Wheel_due_2 x.id x.a x.tn ⟨p, 0, none⟩ W fun r W' => r = ((x.a : Int) == (now : Int)) ∧ Ext W W' := by
    apply ok_wheel_Wheel_due_2
    unfold s_wheel_Wheel_due_2
    refine Al_e fun q W1 q1 _ _ g1 => ?_
    have y := g1.trans (Ext.drew W1)
    have hC' := hC.ext y
    simp only [ex_some, Ld_eq, List.getElem?_cons_zero, List.getElem?_cons_succ, LdV_some, dec_int, dec_ptr, add_mk, Nat.zero_add, q1.drew.cell, hC'.1.cell, hC'.2]
    exact ⟨by trivial, y⟩
  refine Calls.mono this ?_
  rintro e W' ⟨r, he, rfl, hf⟩
  exact ⟨_, he, hK W' hf⟩

theorem wdue_ok (h : WS w d m ss l now tn most F) :
    c_wheel_Wheel_due (some ⟨d, 0, none⟩) w fun r w' => Fr8 w w' (fpW d m ss) ∧ ∃ D : List Tm, D.Pairwise (fun x y => x.tn < y.tn) ∧ (∀ t, t ∈ D ↔ lkF l t.id = some t ∧ t.a = now) ∧ BufN 1 eI w' r (D.map Tm.id) ∧ (∀ b, SliceV.at r b → w.heap.size ≤ b) ∧
      ∃ ss' l' F', WS w' d m ss' l' now tn most F' ∧ (∀ id t, lkF l' id = some t ↔ lkF l id = some t ∧ t ∉ D) ∧ l'.length + D.length = l.length ∧ (∀ b, fpW d m ss' b → fpW d m ss b ∨ w.heap.size ≤ b) ∧ (∀ b, SliceV.at r b → ¬ fpW d m ss' b) := by
  apply ok_wheel_Wheel_due
  unfold s_wheel_Wheel_due
  refine ⟨rfl, Al_e fun p w1 r1 e1 z1 f1 => ?_⟩
  have x1 := f1.trans (Ext.drew w1)
  have h1 := h.ext x1
  have r1d := r1.drew
  have hp : ∀ b, fpW d m ss b → b ≠ p := fun b hb => by have := h.wm.lt hb; omega
  simp only [ex_some, Ld_eq, List.getElem?_cons_zero, LdV_some, dec_int, dec_ptr, add_mk, Nat.zero_add, r1d.cell, h1.wm.c449]
  refine cm_wheel_Wheel_slot (wslot_ok h1.wm h.wi.nw h.wi.nw) ?_
  rintro _ w2 ⟨⟨n, hn, hlv, rfl⟩, f2⟩
  have hn0 : n = 0 := hlv.uniq (Lv.self now)
  subst hn0
  rw [Nat.zero_mul, Nat.zero_add]
  have x2 := x1.trans f2
  have h2 := h.ext x2
  have r2 := r1d.ext f2
  have hk := dg_lt now 0
  obtain ⟨s, hs, hb⟩ := h2.wm.buf 0 (dg now 0) (by omega) hk
  rw [Nat.zero_mul, Nat.zero_add] at hs
  have hll := Nat.le_trans (WI.short h.wi (fun _ _ e => e) (show 0 < 7 by omega) hk) (by have := h.mo; omega : l.length ≤ 2 ^ 20)
  have hat : ∀ b, SliceV.at s b → fpW d m ss b := fun b hb => .inr (.inr ⟨_, s, hs, hb⟩)
  have all : ∀ t ∈ F 0 (dg now 0), t.a = now := fun t ht => (h.wi.due_mem.1 ht).2
  have s2 : SeesNow p d now w2 := ⟨r2, h2.wm.c449⟩
  simp only [ex_some, LdV_some, dec_slice, h2.wm.cs hs]
  refine cm_slices_Clone_wheel_timer_wheel_timer (clone_ok (hb.sl eT_len (by omega)) (by omega)) ?_
  rintro c3 w3 ⟨f3, b3, n3⟩
  have h3 := h2.ext f3
  have s3 := s2.ext f3
  have hz0 := h.wm.lt (.inl rfl : fpW d m ss d)
  have hx2 := x2.size
  have hx3 := f3.size
  refine cm_slices_DeleteFunc_wheel_timer_wheel_timer (delT_ok b3 (by omega) (notNow p d now) fun W hf => ?_) ?_
  · refine ⟨s3.1.fr hf fun e => ?_, cell_fr s3.2 hf fun e => ?_⟩
    · have := n3 p e; have := r2.lt; omega
    · have := n3 d e; omega
  rintro c4 w4 ⟨b4, f4, n4⟩
  have e4 : (F 0 (dg now 0)).filter (fun x => !((x.a : Int) != (now : Int))) = F 0 (dg now 0) := List.filter_eq_self.2 fun t ht => by rw [all t ht]; simp
  rw [e4] at b4
  have old3 : ∀ b, b < w2.heap.size → ¬ SliceV.at c3 b := fun b hb e => by have := n3 b e; omega
  have h4 := h3.fr f4 fun b hb e => old3 b (h2.wm.lt hb) e
  have s4 : SeesNow p d now w4 := ⟨s3.1.fr f4 (old3 p r2.lt), h4.wm.c449⟩
  have b34 : BufN 3 eT w4 s (F 0 (dg now 0)) := (hb.ext f3).fr f4 fun b hb' e => old3 b (hb.lt hb') e
  have hs4 := h4.wm.cs hs
  simp only [hs4, LdV_some, dec_slice]
  refine cm_slices_DeleteFunc_wheel_timer_wheel_timer (delT_ok b34 (by omega) (isNow p d now) fun W hf => ⟨s4.1.fr hf fun e => hp p (hat p e) rfl, cell_fr s4.2 hf fun e => (h.wm.ne d ⟨_, s, hs, e⟩).1 rfl⟩) ?_
  rintro c5 w5 ⟨b5, f5, n5⟩
  have e5 : (F 0 (dg now 0)).filter (fun x => !((x.a : Int) == (now : Int))) = [] := List.filter_eq_nil_iff.2 fun t ht => by rw [all t ht]; simp
  rw [e5] at b5
  rw [show (⟨d, dg now 0, none⟩ : Addr) = ⟨d, 0 * 64 + dg now 0, none⟩ by rw [Nat.zero_mul, Nat.zero_add]]
  refine h4.wm.setS (n := 0) (k := dg now 0) (by omega) hk (by rw [Nat.zero_mul, Nat.zero_add]; exact hs) (S := SliceV.at s) f5 (fun b _ hb => hb) b5 (fun b hb => .inl (n5 b hb)) (by simp) fun w6 h6 f6 z6 => ?_
  rw [Nat.zero_mul, Nat.zero_add] at h6
  have c4new : ∀ b, SliceV.at c4 b → w2.heap.size ≤ b := fun b hb => n3 b (n4 b hb)
  have sold : ∀ b, SliceV.at s b → b < w2.heap.size := fun b hb' => hb.lt hb'
  have b46 : BufN 3 eT w6 c4 (F 0 (dg now 0)) := ((b4.fr f5 fun b hb' e => by have := c4new b hb'; have := sold b e; omega)).fr f6 fun b hb' e => by have := c4new b hb'; omega
  have f06 : Fr8 w w6 (fpW d m ss) := (((((x2.trans f3) (fpW d m ss)).trans f4 fun b hb1 hb2 => by have := n3 b hb2; omega).trans f5 fun b _ e => hat b e)).trans f6 fun b _ e => .inl e
  have sub6 : ∀ b, fpW d m (ss.set (dg now 0) c5) b → fpW d m ss b := fun b hb' => by
    rcases hb' with g | g | ⟨j, u, hj, hu⟩
    · exact .inl g
    · exact .inr (.inl g)
    · rw [List.getElem?_set] at hj
      split at hj
      · split at hj
        · cases hj; exact hat b (n5 b hu)
        · cases hj
      · exact .inr (.inr ⟨j, u, hj, hu⟩)
  have r6 : Row w6 p [.pointer (some ⟨d, 0, none⟩)] := (s4.1.fr f5 fun e => hp p (hat p e) rfl).fr f6 fun e => hp d (.inl rfl) e.symm
  have hz6 : w2.heap.size ≤ w6.heap.size := by have := f4.size; have := f5.size; have := f6.size; omega
  refine cm_slices_SortFunc_wheel_timer_wheel_timer (sortT_ok b46 (by omega)) ?_
  rintro w7 ⟨f7, D, hperm, hsort, b7⟩
  have lt2 : ∀ b, fpW d m (ss.set (dg now 0) c5) b → b < w2.heap.size := fun b hb' => h2.wm.lt (sub6 b hb')
  have h7 := h6.fr f7 fun b hb' e => by have := c4new b e; have := lt2 b hb'; omega
  have r7 := r6.fr f7 fun e => by have := c4new p e; have := r2.lt; omega
  have f07 : Fr8 w w7 (fpW d m ss) := f06.trans f7 fun b hb1 e => by have := c4new b e; omega
  have hmD : ∀ t, t ∈ D ↔ lkF l t.id = some t ∧ t.a = now := fun t => by rw [hperm.mem_iff]; exact h.wi.due_mem
  have hnd0 := h.wi.nd 0 (dg now 0) (by omega) hk
  have hDn : (D.map Tm.id).Nodup := (hperm.map Tm.id).nodup_iff.2 hnd0
  have hDl : D.length ≤ 2 ^ 20 := by rw [hperm.length_eq]; exact hll
  have hstr : D.Pairwise (fun x y => x.tn < y.tn) := by
    rw [List.pairwise_iff_getElem] at hsort ⊢
    intro i j hi hj hij
    have q1 := hsort i j hi hj hij
    have m1 := (hmD D[i]).1 (List.getElem_mem hi)
    have m2 := (hmD D[j]).1 (List.getElem_mem hj)
    have : D[i].tn ≠ D[j].tn := fun e => by
      have hid := h.ti _ _ _ _ m1.1 m2.1 e
      have := List.pairwise_iff_getElem.1 hDn i j (by simpa using hi) (by simpa using hj) hij
      simp only [List.getElem_map] at this
      exact this hid
    omega
  have clen := b7.len
  have c4lt : ∀ b, SliceV.at c4 b → b < w7.heap.size := fun b hb' => b7.lt hb'
  -- the numbers are taken out
  refine LoopP_inv (fun st W => ∃ (i : Nat) (l1 : PL), i ≤ D.length ∧ st.2.1 = (i : Int) ∧ BufN 1 eI W st.1 ((D.take i).map Tm.id) ∧ (∀ b, SliceV.at st.1 b → w7.heap.size ≤ b) ∧ WM W d m (ss.set (dg now 0) c5) l1 now tn most (updF F 0 (dg now 0) []) ∧
      (∀ id t, lkF l1 id = some t ↔ lkF l id = some t ∧ t ∉ D.take i) ∧ l1.length + i = l.length ∧ Fr8 w7 W (· = m)) (fun st _ => D.length - st.2.1.toNat)
    ⟨0, l, by omega, rfl, BufN.nil, (fun b ⟨o, hb'⟩ => by cases hb'), h7, fun id t => by simp, by omega, Fr8.refl _ _⟩ ?_
  rintro ⟨out, i, ⟨⟩⟩ W ⟨i, l1, hiD, hii, hbo, hno, hWm, hlk, hlen, hfW⟩ next hnext
  simp only at hii hbo hno
  subst hii
  have ml7 : m < w7.heap.size := h7.lt (.inr (.inl rfl))
  by_cases hlt : (i : Int) < (c4.len : Int)
  · rw [decide_eq_true hlt, cond_true]
    have hlt' : i < D.length := by omega
    have hx := List.getElem?_eq_getElem hlt'
    have htk : D.take (i + 1) = D.take i ++ [D[i]] := List.take_succ_eq_append_getElem hlt'
    have hmem := List.getElem_mem hlt'
    have hndt : D[i] ∉ D.take i := fun hin => by
      have hn2 := hDn
      rw [← List.take_append_drop (i + 1) D, htk, List.map_append, List.map_append, List.nodup_append, List.nodup_append] at hn2
      exact hn2.1.2.2 _ (List.mem_map.2 ⟨_, hin, rfl⟩) _ (by simp) rfl
    generalize D[i] = t at hx htk hmem hndt
    have hbW : BufN 3 eT W c4 D := b7.fr hfW fun b hb' e => by have := c4new b hb'; have := h2.wm.lt (.inr (.inl rfl) : fpW d m ss m); omega
    refine SlN_T (hbW.sl eT_len (by omega)) hx fun a q0 q1 q2 => ?_
    simp only [LdV_some, dec_int, q0, q1, q2]
    refine Al_f rfl rfl fun q w8 r8 e8 z8 f8 => ?_
    have rpW : Row W p [.pointer (some ⟨d, 0, none⟩)] := r7.fr hfW fun e => hp m (.inr (.inl rfl)) e.symm
    have y8 := f8.trans (Ext.drew w8)
    have h8 := hWm.ext y8
    have r8d := r8.drew
    simp only [ex_some, List.getElem?_cons_zero, LdV_some, dec_int, dec_ptr, dec_map, add_mk, Nat.zero_add, (rpW.ext y8).cell, h8.c448, r8d.cell]
    refine h8.delM t.id fun w9 h9 f9 z9 => ?_
    have hmq : m ≠ q := by have := hfW.size; omega
    have r9 := r8d.fr f9 fun e => hmq e.symm
    simp only [List.getElem?_cons_zero, LdV_some, dec_int, r9.cell]
    refine Al_e fun q2 w10 r10 e10 z10 f10 => ?_
    have hel : SlN 1 eI w10 ⟨some ⟨q2, 0, none⟩, 1, 1⟩ [t.id] := (BufN.row (xs := [t.id]) (f := eI) (n := 1) (by simpa using r10)).sl eI_len (by omega)
    have hbo10 := ((hbo.ext y8).fr f9 fun b hb' e => by have := hno b hb'; omega).ext f10
    refine AppSl_bufN eI_len hbo10 hel rfl (by omega) eI_one (by rw [List.length_map, List.length_take, List.length_singleton]; omega) (by rw [List.length_map, List.length_take, List.length_singleton]; omega) fun o11 w11 b11 f11 n11 => ?_
    have hlt1 : lkF l1 t.id = some t := (hlk t.id t).2 ⟨((hmD t).1 hmem).1, hndt⟩
    have h11 := (h9.ext f10).fr f11 fun b hb' e => by
      have := hno b e
      have := h7.lt hb'
      omega
    have hwz : w8.drew.heap.size = w8.heap.size := rfl
    have f7z := hfW.size
    have f8z := f8.size
    have f9z := f9.size
    have f10z := f10.size
    have f711 : Fr8 w7 w11 (· = m) := ((((hfW.ext y8).trans f9 fun _ _ e => e).ext f10)).trans f11 fun b hb1 e => by have := hno b e; omega
    rw [wrap_i64 (by omega) (by omega)]
    refine hnext _ _ ⟨i + 1, _, by omega, by simp, ?_, ?_, h11, fun id u => ?_, ?_, f711⟩ (by simp only; omega)
    · simp only
      rw [htk, List.map_append]; exact b11
    · simp only
      intro b hb'
      rcases n11 b hb' with g | g
      · exact hno b g
      · omega
    · rw [lk_del hWm.nd, htk, List.mem_append, List.mem_singleton]
      by_cases hid : id = t.id
      · rw [if_pos hid]
        constructor
        · intro hx; cases hx
        · rintro ⟨g1, g2⟩
          rw [hid, ((hmD t).1 hmem).1] at g1
          cases g1
          exact absurd (.inr rfl) g2
      · rw [if_neg hid, hlk]
        constructor
        · rintro ⟨g1, g2⟩
          refine ⟨g1, ?_⟩
          rintro (g | rfl)
          · exact g2 g
          · exact hid ((h.wi.pl _ _ g1).1).symm
        · rintro ⟨g1, g2⟩
          exact ⟨g1, fun g => g2 (.inl g)⟩
    · have := del_len hlt1; omega
  · rw [decide_eq_false hlt, cond_false]
    have : i = D.length := by omega
    subst this
    rw [List.take_length] at hbo hlk
    have hfin : Fr8 w W (fpW d m ss) := f07.trans hfW fun b _ e => .inr (.inl e)
    have hmem' : ∀ u, u ∈ F 0 (dg now 0) ↔ u ∈ D := fun u => hperm.mem_iff.symm
    have hrest : rest (lkF l) (F 0 (dg now 0)) = lkF l1 := by
      funext id
      cases hq : lkF l1 id with
      | some t =>
        have := (hlk id t).1 hq
        exact rest_some.2 ⟨this.1, fun e => this.2 ((hmem' t).1 e)⟩
      | none =>
        cases hr : rest (lkF l) (F 0 (dg now 0)) id with
        | none => rfl
        | some t =>
          have := rest_some.1 hr
          have := (hlk id t).2 ⟨this.1, fun e => this.2 ((hmem' t).2 e)⟩
          rw [hq] at this; cases this
    have hwi := h.wi.due
    rw [hrest] at hwi
    have hout : ∀ b, SliceV.at out b → w7.heap.size ≤ b := hno
    have hz7 : w.heap.size ≤ w7.heap.size := f07.size
    refine ⟨hfin, D, hstr, hmD, hbo, fun b hb' => by have := hno b hb'; omega, _, l1, _, ⟨hWm, hwi, ⟨h.mo.1, by have := h.mo.2; omega⟩, fun id t ht => h.tb id t ((hlk id t).1 ht).1, fun i1 i2 t u q1 q2 q3 => h.ti i1 i2 t u ((hlk i1 t).1 q1).1 ((hlk i2 u).1 q2).1 q3, h.t0⟩, hlk, by omega, fun b hb' => .inl (sub6 b hb'), fun b hb' e => by have := hno b hb'; have := lt2 b e; have := f7.size; omega⟩

def ltT (x y : Tm) : Prop := x.a < y.a ∨ (x.a = y.a ∧ x.tn < y.tn)

theorem wadvance_ok (h : WS w d m ss l now tn most F) (a : Int) {T : Nat} (hT : T = max now (min a 1099511627776).toNat) :
    c_wheel_Wheel_Advance (some ⟨d, 0, none⟩) a w fun r w' => Fr8 w w' (fpW d m ss) ∧ ∃ D : List Tm, D.Pairwise ltT ∧ (∀ t, t ∈ D ↔ lkF l t.id = some t ∧ t.a ≤ T) ∧ BufN 1 eI w' r (D.map Tm.id) ∧ (∀ b, SliceV.at r b → w.heap.size ≤ b) ∧
      ∃ ss' l' F', WS w' d m ss' l' T tn most F' ∧ (∀ id t, lkF l' id = some t ↔ lkF l id = some t ∧ T < t.a) ∧ l'.length + D.length = l.length ∧ (∀ b, fpW d m ss' b → fpW d m ss b ∨ w.heap.size ≤ b) ∧ (∀ b, SliceV.at r b → ¬ fpW d m ss' b) := by
  apply ok_wheel_Wheel_Advance
  unfold s_wheel_Wheel_Advance
  have hnw := h.wi.nw
  have hmo := h.mo
  have hT40 : T ≤ 2 ^ 40 := by omega
  have hTn : now ≤ T := by omega
  refine cm_wheel_Wheel_ready (wready_ok h.wm) ?_
  rintro _ w2 ⟨rfl, hw⟩
  subst hw
  simp -zeta only [Bool.not_true, cond_false, cond_false, ex_some, Ld_eq, LdV_some, dec_int, add_mk, Nat.zero_add, h.wm.c449]
  have eT' : (if (if (1099511627776 : Int) < a then 1099511627776 else a) > (now : Int) then (if (1099511627776 : Int) < a then 1099511627776 else a) else (now : Int)) = (T : Int) := by
    rw [hT]
    split <;> split <;> omega
  simp -zeta only [eT']
  refine LoopP_inv (fun st W => ∃ (O : List Tm) (ss1 : List SliceV) (l1 : PL) (n1 : Nat) (F1 : Fs), WS W d m ss1 l1 n1 tn most F1 ∧ n1 ≤ T ∧ now ≤ n1 ∧ BufN 1 eI W st.1 (O.map Tm.id) ∧ (∀ b, SliceV.at st.1 b → w2.heap.size ≤ b ∧ ¬ fpW d m ss1 b) ∧ O.Pairwise ltT ∧
      (∀ id t, lkF l1 id = some t ↔ lkF l id = some t ∧ t ∉ O) ∧ (∀ t ∈ O, lkF l t.id = some t ∧ t.a ≤ T) ∧ (∀ t ∈ O, ∀ id u, lkF l1 id = some u → t.a < u.a) ∧ l1.length + O.length = l.length ∧ Fr8 w2 W (fpW d m ss) ∧ (∀ b, fpW d m ss1 b → fpW d m ss b ∨ w2.heap.size ≤ b))
    (fun st W => st.1.cap * 0 + (l.length - st.1.len)) ⟨[], ss, l, now, F, h, hTn, Nat.le_refl _, BufN.nil, (fun b ⟨o, hb⟩ => by cases hb), List.Pairwise.nil, fun id t => by simp, by simp, by simp, by simp, Fr8.refl _ _, fun b hb => .inl hb⟩ ?_
  rintro ⟨out, ⟨⟩⟩ W ⟨O, ss1, l1, n1, F1, hW, hn1, hn0, hbo, hno, hso, hlk, hO, hOl, hlen, hf, hsub⟩ next hnext
  simp only at hbo hno
  have hl20 : l1.length ≤ 2 ^ 20 := by omega
  refine cm_wheel_Wheel_next (wnext_ok hW.wm hW.wi) ?_
  rintro r t w3 ⟨f3, hres⟩
  have h3 := hW.ext f3
  have hbo3 := hbo.ext f3
  have hf3 := hf.ext f3
  intro J
  -- the end
  have fin : (∀ id u, lkF l1 id = some u → T < u.a) → J true := by
    intro hall
    simp only [J, cond_true]
    refine cm_wheel_Wheel_turnTo (wturn_ok h3.wm h3.wi hn1 hT40 (fun id u hu => Nat.le_of_lt (hall id u hu)) hl20) ?_
    rintro w4 ⟨f4, ss4, F4, h4, hi4, hs4⟩
    have hW3 : w2.heap.size ≤ w3.heap.size := hf3.size
    refine ⟨hf3.trans f4 fun b hb1 hb2 => ?_, O, hso, fun u => ⟨fun hu => hO u hu, fun ⟨g1, g2⟩ => ?_⟩, hbo3.fr f4 fun b hb e => (hno b hb).2 e, fun b hb => (hno b hb).1, ss4, l1, F4, ⟨h4, hi4, ⟨hmo.1, by omega⟩, h3.tb, h3.ti, h3.t0⟩, fun id u => ?_, hlen, fun b hb => ?_, fun b hb e => ?_⟩
    · rcases hsub b hb2 with g | g
      · exact g
      · omega
    · refine Classical.byContradiction fun hn => ?_
      have := hall _ u ((hlk u.id u).2 ⟨g1, hn⟩)
      omega
    · rw [hlk]
      constructor
      · rintro ⟨g1, g2⟩
        exact ⟨g1, hall id u ((hlk id u).2 ⟨g1, g2⟩)⟩
      · rintro ⟨g1, g2⟩
        exact ⟨g1, fun e => by have := (hO u e).2; omega⟩
    · rcases hs4 b hb with g | g
      · exact hsub b g
      · exact .inr (by omega)
    · rcases hs4 b e with g | g
      · exact (hno b hb).2 g
      · have := hbo.lt hb
        have := f3.size
        omega
  rcases hres with ⟨rfl, hnone⟩ | ⟨rfl, u, hu, rfl, hge, hmin⟩
  · rw [Bool.not_false, cond_true]
    exact fin fun id v hv => by rw [hnone id] at hv; cases hv
  · rw [Bool.not_true, cond_false]
    by_cases hgt : (u.a : Int) > (T : Int)
    · rw [decide_eq_true hgt]
      exact fin fun id v hv => by have := hmin id v hv; omega
    · rw [decide_eq_false hgt]
      have hua : u.a ≤ T := by omega
      simp only [J, cond_false]
      refine cm_wheel_Wheel_turnTo (wturn_ok h3.wm h3.wi hge (by omega) hmin hl20) ?_
      rintro w4 ⟨f4, ss4, F4, h4, hi4, hs4⟩
      have hws4 : WS w4 d m ss4 l1 u.a tn most F4 := ⟨h4, hi4, ⟨hmo.1, by omega⟩, h3.tb, h3.ti, h3.t0⟩
      refine cm_wheel_Wheel_due (wdue_ok hws4) ?_
      rintro r5 w5 ⟨f5, D, hDs, hDm, hb5, hn5, ss5, l5, F5, h5, hlk5, hlen5, hs5, hd5⟩
      have hbo4 := hbo3.fr f4 fun b hb e => (hno b hb).2 e
      have olt : ∀ b, SliceV.at out b → b < w3.heap.size := fun b hb => hbo3.lt hb
      have out4 : ∀ b, SliceV.at out b → ¬ fpW d m ss4 b := fun b hb e => by
        rcases hs4 b e with g | g
        · exact (hno b hb).2 g
        · have := olt b hb; omega
      have hbo5 := hbo4.fr f5 fun b hb e => out4 b hb e
      have z3 := hf3.size
      have z4 := f4.size
      have z5 := f5.size
      have hDl : D.length ≤ 2 ^ 20 := by omega
      refine AppSl_bufN eI_len hbo5 (hb5.sl eI_len (by omega)) rfl (by omega) eI_one (by rw [List.length_map, List.length_map]; omega) (by rw [List.length_map, List.length_map]; omega) fun o6 w6 b6 f6 n6 => ?_
      have f24 : Fr8 w2 w4 (fpW d m ss) := hf3.trans f4 fun b hb1 hb2 => by
        rcases hsub b hb2 with g | g
        · exact g
        · omega
      have f25 : Fr8 w2 w5 (fpW d m ss) := f24.trans f5 fun b hb1 hb2 => by
        rcases hs4 b hb2 with g | g
        · rcases hsub b g with g | g
          · exact g
          · omega
        · omega
      have f26 : Fr8 w2 w6 (fpW d m ss) := f25.trans f6 fun b hb1 hb2 => by have := (hno b hb2).1; omega
      have out5 : ∀ b, SliceV.at out b → ¬ fpW d m ss5 b := fun b hb e => by
        rcases hs5 b e with g | g
        · exact out4 b hb g
        · have := olt b hb; omega
      have h6 := h5.fr f6 fun b hb e => out5 b e hb
      rw [← List.map_append] at b6
      have hD0 : 0 < D.length := List.length_pos_of_mem ((hDm u).2 ⟨by
        have := (h3.wi.pl _ _ hu).1
        rw [this]; exact hu, rfl⟩)
      have b6l := b6.len
      have bol := hbo.len
      rw [List.length_map] at b6l bol
      rw [List.length_append] at b6l
      refine hnext _ _ ⟨O ++ D, ss5, l5, u.a, F5, h6, hua, by omega, b6, fun b hb => ?_, ?_, fun id v => ?_, fun v hv => ?_, fun v hv id x hx => ?_, by rw [List.length_append]; omega, f26, fun b hb => ?_⟩ (by simp only [Nat.mul_zero, Nat.zero_add]; omega)
      · rcases n6 b hb with g | g
        · exact ⟨(hno b g).1, out5 b g⟩
        · refine ⟨by omega, fun e => ?_⟩
          have := h5.wm.lt e
          omega
      · rw [List.pairwise_append]
        refine ⟨hso, hDs.imp_of_mem fun {x y} hx hy hxy => .inr ⟨?_, hxy⟩, fun x hx y hy => .inl ?_⟩
        · rw [((hDm x).1 hx).2, ((hDm y).1 hy).2]
        · exact hOl x hx _ y ((hDm y).1 hy).1
      · rw [hlk5, hlk, List.mem_append, not_or, and_assoc]
      · rcases List.mem_append.1 hv with g | g
        · exact hO v g
        · obtain ⟨g1, g2⟩ := (hDm v).1 g
          exact ⟨((hlk _ _).1 g1).1, by omega⟩
      · obtain ⟨q1, q2⟩ := (hlk5 id x).1 hx
        rcases List.mem_append.1 hv with g | g
        · exact hOl v g id x q1
        · obtain ⟨g1, g2⟩ := (hDm v).1 g
          have := hmin id x q1
          have : x.a ≠ u.a := fun e => q2 ((hDm x).2 ⟨by rw [(h3.wi.pl _ _ q1).1]; exact q1, e⟩)
          omega
      · rcases hs5 b hb with g | g
        · rcases hs4 b g with g | g
          · exact hsub b g
          · exact .inr (by omega)
        · exact .inr (by omega)
end
end Go.Proofs
