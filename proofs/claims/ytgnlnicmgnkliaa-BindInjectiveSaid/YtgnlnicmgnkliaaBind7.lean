import Derived.Test.YtgnlnicmgnkliaaBind6
import Derived.Test.YtgnlnicmgnkliaaMapB
/- The law BindInjective. -/
namespace Go.Proofs
open Gp Gp.Hash
open Gp.Bind (Bnd Slots live GoodB freeN getS In64)
set_option maxRecDepth 100000

theorem Al_map {w : World} {K : Addr → World → Prop} (h : ∀ w1, (∀ (α : Type) (enc : α → Value), MapB enc w1 w.heap.size []) → w1.heap.size = w.heap.size + 1 → Ext w w1 → K ⟨w.heap.size, 0, none⟩ w1) : Al w (.map #[] 0) K :=
  h _ (fun _ enc => MapB.new w enc) (by simp) (fun S => Fr8.alloc w _ S)

abbrev I4 := Int × Int × Int × Int
abbrev O3 := Int × Int × Int
def encI (x : I4) : Value := .agg ⟨[.int .i64 x.1, .int .i64 x.2.1, .int .i64 x.2.2.1, .int .i64 x.2.2.2]⟩
def encO (x : O3) : Value := .agg ⟨[.int .i64 x.1, .int .i64 x.2.1, .int .i64 x.2.2]⟩
def keyI (b : Bnd) : I4 := (b.sw, b.pr, b.ad, b.po)
def keyO (b : Bnd) : O3 := (b.opr, b.oad, b.opo)

theorem eqI (a b : I4) : eqT Try.prog 16 29 (encI a) (encI b) = some (decide (a = b)) := by
  have h : eqT Try.prog 16 29 (encI a) (encI b) = some ((a.1 == b.1) && ((a.2.1 == b.2.1) && ((a.2.2.1 == b.2.2.1) && ((a.2.2.2 == b.2.2.2) && true)))) := by kernel_rfl
  rw [h]
  obtain ⟨a1, a2, a3, a4⟩ := a
  obtain ⟨b1, b2, b3, b4⟩ := b
  simp [ibeq, Bool.decide_and]

theorem eqO (a b : O3) : eqT Try.prog 16 31 (encO a) (encO b) = some (decide (a = b)) := by
  have h : eqT Try.prog 16 31 (encO a) (encO b) = some ((a.1 == b.1) && ((a.2.1 == b.2.1) && ((a.2.2 == b.2.2) && true))) := by kernel_rfl
  rw [h]
  obtain ⟨a1, a2, a3⟩ := a
  obtain ⟨b1, b2, b3⟩ := b
  simp [ibeq, Bool.decide_and]

theorem okI (a : I4) : keyOK Try.prog 29 (encI a) = true := by
  unfold keyOK
  rw [eqI]; rfl
theorem okO (a : O3) : keyOK Try.prog 31 (encO a) = true := by
  unfold keyOK
  rw [eqO]; rfl

theorem live_sorted : ∀ (S : Slots) (k : Nat), (live k S).Pairwise fun a b => a.1 < b.1
  | [], _ => List.Pairwise.nil
  | none :: r, k => live_sorted r (k + 1)
  | some b :: r, k => by
    rw [Gp.Bind.live]
    refine List.pairwise_cons.2 ⟨?_, live_sorted r (k + 1)⟩
    rintro ⟨v, c⟩ hm
    obtain ⟨i, _, hv⟩ := Gp.Bind.mem_live.1 hm
    show (k : Int) < v
    omega

theorem live_fresh {S : Slots} {Mi Mo : ByteArray → Option Int} (h : GoodB S Mi Mo) {j : Nat} {v : Int} {b : Bnd} (hj : (live 0 S)[j]? = some (v, b)) :
    keyI b ∉ ((live 0 S).take j).map (fun x => keyI x.2) ∧ keyO b ∉ ((live 0 S).take j).map (fun x => keyO x.2) := by
  have hlt := (List.getElem?_eq_some_iff.1 hj).1
  have hmem := List.mem_of_getElem? hj
  obtain ⟨i, hi, hv⟩ := Gp.Bind.mem_live.1 hmem
  have key : ∀ x ∈ (live 0 S).take j, (keyI x.2 = keyI b ∨ keyO x.2 = keyO b) → False := by
    rintro ⟨v', c⟩ hx hk
    obtain ⟨i', hi', hv'⟩ := Gp.Bind.mem_live.1 (List.mem_of_mem_take hx)
    have he : i' = i := by
      refine h.one hi' hi ?_
      rcases hk with hk | hk
      · left
        simp only [keyI, Prod.mk.injEq] at hk
        unfold Bnd.i; rw [hk.1, hk.2.1, hk.2.2.1, hk.2.2.2]
      · right
        simp only [keyO, Prod.mk.injEq] at hk
        unfold Bnd.o; rw [hk.1, hk.2.1, hk.2.2]
    obtain ⟨m, hm, hxm⟩ := List.getElem_of_mem hx
    simp only [List.length_take] at hm
    rw [List.getElem_take] at hxm
    have hs := List.pairwise_iff_getElem.1 (live_sorted S 0) m j (by omega) hlt (by omega)
    rw [hxm] at hs
    have hjj : (live 0 S)[j] = (v, b) := by rw [List.getElem?_eq_getElem hlt] at hj; simpa using hj
    rw [hjj] at hs
    simp only at hs
    omega
  constructor
  · intro hm
    obtain ⟨x, hx, hk⟩ := List.mem_map.1 hm
    exact key x hx (.inl hk)
  · intro hm
    obtain ⟨x, hx, hk⟩ := List.mem_map.1 hm
    exact key x hx (.inr hk)

theorem injective22_ok {w : World} {s : SliceV} (hs : DoIn w s) : c_law22_BindInjective s w fun r w' => r = true ∧ Ext w w' := by
  apply ok_law22_BindInjective
  unfold s_law22_BindInjective
  have hsl := hs.1
  refine Al_e fun pa w1 r1 e1 z1 f1 => ?_
  refine cm_law22_awake (awake22_ok w1) ?_
  rintro _ w2 ⟨rfl, f2⟩
  simp -zeta only [Bool.not_true, cond_false]
  refine cm_bind_New (dnew_ok 50 w2) ?_
  rintro p e w3 ⟨f3, (⟨hbad, _, _⟩ | ⟨_, _, rfl, A, rfl, hfp, hd⟩)⟩
  · omega
  refine Al_e fun pb w4 r4 e4 z4 f4 => ?_
  refine St_row r4 rfl (by simp) fun w5 r5 f5 z5 => ?_
  simp only [List.set_cons_zero] at r5
  have f5b := f5 (· = pb) rfl
  have s1 := f1.size
  have s2 := f2.size
  have s3 := f3.size
  have s4 := f4.size
  have x5 : Ext w w5 := (((f1.trans f2).trans f3).trans f4).new f5b fun y hy e => by omega
  have ra5 := (((r1.ext f2).ext f3).ext f4).fr f5b (by omega)
  have hd5 := (hd.ext f4).fr f5b fun y hy e => by have := (hfp y hy).2; omega
  intro J14
  simp -zeta only [Option.isNone_some, cond_false, Ld_eq, List.getElem?_cons_zero, LdV_some, dec_ptr, r5.cell, show ((0 : Int) != 0) = false from rfl]
  show J14 false
  simp -zeta only [J14, cond_false]
  intro J18
  have h18 : ∀ W A S Mi Mo, Ext w W → Row W pa [.bool false] → Row W pb [.pointer (some ⟨A.d, 0, none⟩)] → DB W A 50 S Mi Mo → (∀ y, fp A y → w.heap.size ≤ y ∧ y ≠ pa ∧ y ≠ pb) → J18 W := by
    intro W A S Mi Mo hx ra rb hd hf
    simp only [J18]
    refine Al_map fun w6 m6 z6 f6 => Al_map fun w7 m7 z7 f7 => Al_e fun pc w8 r8 e8 z8 f8 => Al_e fun pd w9 r9 e9 z9 f9 => ?_
    have mI := ((m6 I4 encI).ext f7).ext (f8.trans f9)
    have mO := (m7 O3 encO).ext (f8.trans f9)
    have y9 := (f6.trans f7).trans (f8.trans f9)
    refine St_row (r8.ext f9) rfl (by simp) fun w10 r10 f10 z10 => ?_
    have f10c := f10 (· = pc) rfl
    refine St_row (r9.fr f10c (by omega)) rfl (by simp) fun w11 r11 f11 z11 => ?_
    have f11d := f11 (· = pd) rfl
    simp only [List.set_cons_zero] at r10 r11
    have y11 : Ext W w11 := (y9.new f10c fun y hy e => by omega).new f11d fun y hy e => by omega
    have rc11 := r10.fr f11d (by omega)
    have mI11 := (mI.fr f10c (by omega)).fr f11d (by omega)
    have mO11 := (mO.fr f10c (by omega)).fr f11d (by omega)
    simp only [cond_true, Ld_eq, List.getElem?_cons_zero, LdV_some, dec_ptr, (rb.ext y11).cell]
    apply ok_bind_DB_All
    unfold s_bind_DB_All
    refine ⟨rfl, Al_e fun fc w12 r12 e12 z12 f12 => ?_⟩
    have y12 := y11.trans f12
    have hd12 := hd.ext y12
    have rc12 := rc11.ext f12
    have rd12 := r11.ext f12
    have mI12 := mI11.ext f12
    have mO12 := mO11.ext f12
    have ra12 := ra.ext y12
    have rb12 := rb.ext y12
    have hla : lAt none w12 = w12.heap.size + 1 := rfl
    have s12 := f12.size
    have hal := ra.lt
    have hbl := rb.lt
    have hyl : (yD (live 0 S)).length = (live 0 S).length := by simp [yD]
    have hW : ∀ y, fp A y → y < W.heap.size := fun y hy => hd.lt hy
    refine rng_iter (all_iter 50 S Mi Mo A fc) (fun i V => MapB encI V W.heap.size (((live 0 S).take i).map fun x => keyI x.2) ∧ MapB encO V w6.heap.size (((live 0 S).take i).map fun x => keyO x.2) ∧ Fr8 w12 V (fun y => y = W.heap.size ∨ y = w6.heap.size) ∧ w12.heap.size + 2 ≤ V.heap.size)
      (fun _ _ => False) (by simp) ?_ ?_ ?_ (by intro e W W' h; exact h.elim) (by intro e W h; exact h.elim) ?_ ?_ (by intro W h; exact h.elim) (by intro id W h; exact h.elim)
    · intro w13 f13 z13
      exact ⟨by simpa using mI12.ext f13, by simpa using mO12.ext f13, f13 _, by omega⟩
    · rintro i V ⟨_, _, g3, _⟩
      exact ⟨r12.fr g3 (by rintro (h | h) <;> omega), hd12.fr g3 fun y hy h => by have := hW y hy; rcases h with h | h <;> omega⟩
    · rintro i V V' ⟨g1, g2, g3, g4⟩ hfr
      exact ⟨g1.fr hfr (by omega), g2.fr hfr (by omega), g3.trans hfr fun y hy e => by omega, by have := hfr.size; omega⟩
    · intro i v V Kb hv ⟨g1, g2, g3, g4⟩ hlt hnorm _
      rw [yD_get] at hv
      cases hL : (live 0 S)[i]? with
      | none => rw [hL] at hv; simp at hv
      | some y =>
      obtain ⟨n, b⟩ := y
      rw [hL] at hv
      simp only [Option.map_some, Option.some.injEq] at hv
      subst hv
      have hil : i < (live 0 S).length := (List.getElem?_eq_some_iff.1 hL).1
      obtain ⟨fr1, fr2⟩ := live_fresh hd.good hL
      obtain ⟨k, hk, hkn⟩ := Gp.Bind.mem_live.1 (List.mem_of_getElem? hL)
      have hbk := hd.good.ok k b hk
      have hMi : Mi (Bind.keyS b.i) = some n := (hd.good.i _ _).2 ⟨k, b, hk, rfl, by omega⟩
      have hMo : Mo (Bind.keyS b.o) = some n := (hd.good.o _ _).2 ⟨k, b, hk, rfl, by omega⟩
      refine Al_f rfl rfl fun q w13 r13 e13 z13 f13 => ?_
      refine ⟨by rw [(f13 fun _ => False).same _ hlt (by simp)], ?_⟩
      have fb := busy_ext f13 hlt
      have fV : Fr8 w12 (busyW V (lAt none w12)) (fun y => y = W.heap.size ∨ y = w6.heap.size) := g3.trans (Fr8.busyW V _) fun y hy e => by omega
      have fV' := fV.ext fb
      have qb : Row (busyW w13 (lAt none w12)) pb _ := rb12.fr fV' (by rintro (h | h) <;> omega)
      have qc : Row (busyW w13 (lAt none w12)) pc _ := rc12.fr fV' (by rintro (h | h) <;> omega)
      have qd : Row (busyW w13 (lAt none w12)) pd _ := rd12.fr fV' (by rintro (h | h) <;> omega)
      have q13 : Row (busyW w13 (lAt none w12)) q _ := r13.fr (Fr8.busyW w13 _) (by omega)
      have hdV : DB (busyW w13 (lAt none w12)) A 50 S Mi Mo := hd12.fr fV' fun y hy h => by have := hW y hy; rcases h with h | h <;> omega
      have g1' : MapB encI (busyW w13 (lAt none w12)) W.heap.size _ := (g1.fr (Fr8.busyW V _) (by omega)).ext fb
      have g2' : MapB encO (busyW w13 (lAt none w12)) w6.heap.size _ := (g2.fr (Fr8.busyW V _) (by omega)).ext fb
      simp only [List.getElem?_cons_zero, List.getElem?_cons_succ, LdV_some, dec_int, dec_ptr, add_mk, Nat.zero_add, Nat.add_zero, qb.cell, q13.cell]
      refine cm_bind_DB_Find (dfind_ok hdV _ _ _ _ hbk.1) ?_
      rintro n14 t14 w14 ⟨ht14, hn14, f14⟩
      have ht14 : t14 = (Mi (Bind.keyS b.i)).isSome := ht14
      have hn14 : n14 = (Mi (Bind.keyS b.i)).getD 0 := hn14
      rw [hMi] at ht14 hn14
      have ht14 : t14 = true := ht14
      have hn14 : n14 = n := hn14
      subst ht14 hn14
      simp only [List.getElem?_cons_zero, List.getElem?_cons_succ, LdV_some, dec_int, dec_ptr, (qb.ext f14).cell, (q13.ext f14).cell]
      refine cm_bind_DB_Back (dback_ok (hdV.ext f14) _ _ _ hbk.2) ?_
      rintro n15 t15 w15 ⟨ht15, hn15, f15⟩
      have ht15 : t15 = (Mo (Bind.keyS b.o)).isSome := ht15
      have hn15 : n15 = (Mo (Bind.keyS b.o)).getD 0 := hn15
      rw [hMo] at ht15 hn15
      have ht15 : t15 = true := ht15
      have hn15 : n15 = n14 := hn15
      subst ht15 hn15
      have y15 := f14.trans f15
      have qc15 := qc.ext y15
      have qd15 := qd.ext y15
      have q15 := q13.ext y15
      simp only [List.getElem?_cons_zero, List.getElem?_cons_succ, LdV_some, dec_int, dec_map, qc15.cell, q15.cell]
      refine MapGet_B (g1'.ext y15) eqI (keyI b) (okI _) ?_
      simp only [fr1, decide_false, cond_false, cond_false, List.getElem?_cons_zero, LdV_some, dec_map, qd15.cell]
      refine MapGet_B (g2'.ext y15) eqO (keyO b) (okO _) ?_
      have y15d := y15.trans (Ext.drew w15)
      simp only [fr2, decide_false, cond_false, Bool.not_true, bne_self_eq_false, cond_false, List.getElem?_cons_zero, List.getElem?_cons_succ, LdV_some, dec_int, dec_map, qc15.drew.cell, qd15.drew.cell, q15.drew.cell]
      refine MapSet_B (g1'.ext y15d) eqI (keyI b) (okI _) fr1 fun w16 m16 f16 z16 => ?_
      have q16 := q15.drew.fr f16 (by have := f13.size; omega)
      have qd16 := qd15.drew.fr f16 (by have := f13.size; omega)
      simp only [true_and, List.getElem?_cons_zero, List.getElem?_cons_succ, q16.cell, qd16.cell]
      refine MapSet_B ((g2'.ext y15d).fr f16 (by omega)) eqO (keyO b) (okO _) fr2 fun w17 m17 f17 z17 => ?_
      have htk : (live 0 S).take (i + 1) = (live 0 S).take i ++ [(n15, b)] := by
        rw [List.take_succ_eq_append_getElem hil]
        rw [List.getElem?_eq_getElem hil] at hL
        simp only [Option.some.injEq] at hL
        rw [hL]
      have ftot : Fr8 (busyW V (lAt none w12)) w17 (fun y => y = W.heap.size ∨ y = w6.heap.size) := ((fb.trans y15d) _).trans ((f16.mono fun y h => .inl h).trans (f17.mono (S' := fun y => y = W.heap.size ∨ y = w6.heap.size) fun y h => .inr h) fun _ _ h => h) fun _ _ h => h
      refine hnorm w17 _ ftot (by rintro y h1 h2 (h | h) <;> omega) ⟨?_, ?_, fV.trans ftot fun _ _ h => h, ?_⟩
      · rw [htk, List.map_append]; exact m16.fr f17 (by omega)
      · rw [htk, List.map_append]; exact m17
      · have := ftot.size
        simp [busyW] at this
        omega
    · rintro V ⟨g1, g2, g3, g4⟩ hm
      have hmk := hm rfl
      rw [hyl, List.take_of_length_le (Nat.le_refl _)] at g1
      have qb : Row V pb _ := rb12.fr g3 (by rintro (h | h) <;> omega)
      have qc : Row V pc _ := rc12.fr g3 (by rintro (h | h) <;> omega)
      have qa : Row V pa _ := ra12.fr g3 (by rintro (h | h) <;> omega)
      have hdV := hd12.fr g3 fun y hy h => by have := hW y hy; rcases h with h | h <;> omega
      simp only [List.getElem?_cons_zero, LdV_some, dec_map, qc.cell]
      refine MapLen_B g1 ?_
      simp only [List.getElem?_cons_zero, LdV_some, dec_ptr, qb.cell]
      refine cm_bind_DB_Len (dlen_ok hdV) ?_
      rintro _ w14 ⟨rfl, hw⟩
      subst hw
      have el : ((((live 0 S).map fun x => keyI x.2).length : Int) == ((live 0 S).length : Int)) = true := by rw [List.length_map]; simp
      simp only [el, cond_true]
      refine cm_law22_awake (awake22_ok _) ?_
      rintro _ w15 ⟨rfl, f15⟩
      refine St_row (qa.ext f15) rfl (by simp) fun w16 r16 f16 z16 => ?_
      simp only [List.set_cons_zero] at r16
      have f16a := f16 (· = pa) rfl
      have s15 := f15.size
      refine ⟨?_, ?_⟩
      · rw [f16a.same _ (by omega) (by omega), (f15 fun _ => False).same _ (by omega) (by simp)]; exact hmk
      · have pf := Fr8.putDef w16 w12.heap.size (.deferred none)
        simp only [List.getElem?_cons_zero, LdV_some, dec_bool, (r16.fr pf (by omega)).cell]
        refine ⟨by trivial, ?_⟩
        have hxs := hx.size
        exact ((((hx.trans y12).new g3 fun y hy h => by rcases h with h | h <;> omega).trans f15).new f16a fun y hy e => by omega).new pf fun y hy e => by omega
  -- the calls
  refine LoopP_inv (fun st W => ∃ i : Nat, i ≤ s.len ∧ st.1 = (i : Int) ∧ Ext w W ∧ Row W pa [.bool false] ∧ ∃ A S Mi Mo, Row W pb [.pointer (some ⟨A.d, 0, none⟩)] ∧ DB W A 50 S Mi Mo ∧ ∀ y, fp A y → w.heap.size ≤ y ∧ y ≠ pa ∧ y ≠ pb) (fun st _ => s.len - st.1.toNat)
    ⟨0, by omega, rfl, x5, ra5, A, _, _, _, r5, hd5, fun y hy => by have := hfp y hy; refine ⟨?_, ?_, ?_⟩ <;> omega⟩ ?_
  rintro ⟨k, ⟨⟩⟩ W ⟨i, hi, rfl, hx, ra, A', S, Mi, Mo, rb, hd', hf⟩ next hnext
  by_cases hlt : i < s.len
  · have hlt' : ((i : Int) < (s.len : Int)) := by omega
    obtain ⟨op, id, b, a, hb, ha, hc⟩ := (hs.ext hx).2 i hlt
    have k0 := hc 0 _ rfl
    have k1 := hc 1 _ rfl
    have k2 := hc 2 _ rfl
    have k3 := hc 3 _ rfl
    have k4 := hc 4 _ rfl
    have k5 := hc 5 _ rfl
    have k6 := hc 6 _ rfl
    have k7 := hc 7 _ rfl
    have k8 := hc 8 _ rfl
    have k9 := hc 9 _ rfl
    simp only [Nat.add_zero] at k0
    simp -zeta only [hlt', decide_true, cond_true, ex_some, Ld_eq, LdV_some, dec_int, dec_bool, Nat.add_zero, AtIx, ha, Int.toNat_natCast, addr_add2, k0, k1, k2, k3, k4, k5, k6, k7, k8, k9]
    intro J98
    refine ⟨by first | trivial | omega, by first | trivial | omega, Al_f rfl rfl fun z w6 r6 e6 z6 f6 => ?_⟩
    have x6 := hx.trans f6
    have hd6 := hd'.ext f6
    have ra6 := ra.ext f6
    have rb6 := rb.ext f6
    have hal := ra.lt
    have hbl := rb.lt
    by_cases h60 : (i : Int) ≥ 60
    · simp only [h60, decide_true, cond_true]
      exact h18 w6 A' S Mi Mo x6 ra6 rb6 hd6 hf
    simp -zeta only [h60, decide_false, cond_false, cond_false, List.getElem?_cons_zero, List.getElem?_cons_succ, LdV_some, dec_int, dec_bool, add_mk, Nat.zero_add, r6.cell]
    have hi60 : IntKind.i64.wrap ((i : Int) + 1) = ((i + 1 : Nat) : Int) := by rw [wrap_i64 (by omega) (by omega)]; omega
    by_cases hop : op < 3
    · simp only [hop, decide_true, cond_true, cond_true, List.getElem?_cons_zero, LdV_some, dec_ptr, rb6.cell, J98]
      refine cm_bind_DB_Add (dadd_ok hd6 b hb fun y hy => hd6.lt hy) ?_
      rintro n e w7 ⟨_, f7, A2, S2, Mi2, Mo2, hd7, hA, hfp7, _, _⟩
      rw [hi60]
      refine hnext _ _ ⟨i + 1, by omega, rfl, x6.new f7 fun y hy h => by have := (hf y h).1; omega, ra6.fr f7 fun h => (hf pa h).2.1 rfl, A2, S2, Mi2, Mo2, by rw [hA]; exact rb6.fr f7 fun h => (hf pb h).2.2 rfl, hd7, fun y hy => ?_⟩ (by simp only; omega)
      rcases hfp7 y hy with h8 | h8
      · exact hf y h8
      · have := x6.size
        refine ⟨?_, ?_, ?_⟩ <;> omega
    · simp only [hop, decide_false, cond_false, cond_false, List.getElem?_cons_zero, LdV_some, dec_ptr, rb6.cell, J98]
      refine cm_bind_DB_Remove (dremove_ok hd6 id fun y hy => hd6.lt hy) ?_
      rintro r w7 ⟨_, f7, Mi2, Mo2, hd7⟩
      rw [hi60]
      exact hnext _ _ ⟨i + 1, by omega, rfl, x6.new f7 fun y hy h => by have := (hf y h).1; omega, ra6.fr f7 fun h => (hf pa h).2.1 rfl, A', _, Mi2, Mo2, rb6.fr f7 fun h => (hf pb h).2.2 rfl, hd7, hf⟩ (by simp only; omega)
  · have hlt' : ¬ ((i : Int) < (s.len : Int)) := by omega
    simp only [hlt', decide_false, cond_false]
    exact h18 W A' S Mi Mo hx ra rb hd' hf
end Go.Proofs
