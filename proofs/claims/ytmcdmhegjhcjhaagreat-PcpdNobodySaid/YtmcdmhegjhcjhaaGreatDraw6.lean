import Derived.Test.YtmcdmhegjhcjhaaGreatDraw5
namespace Gp
open Go
section
variable {P : Program} {r : Option Nat} {nt : Nat} {dfr : List Deferred} {ws : List Nat} {a0 : Act} {ops : Array Oper}

def nF : List Bool → Nat
  | [] => 0
  | b :: l => (if b then 0 else 1) + nF l

theorem nF_set : ∀ (l : List Bool) (i : Nat), l[i]? = some false → nF (l.set i true) + 1 = nF l := by
  intro l
  induction l with
  | nil => intro i h; simp at h
  | cons b l ih =>
    intro i h
    cases i with
    | zero => simp at h; subst h; simp [nF]; omega
    | succ i =>
      have := ih i (by simpa using h)
      simp only [List.set_cons_succ, nF]
      omega

theorem nF_zero : ∀ (l : List Bool), nF l = 0 → ∀ i, i < l.length → l[i]? = some true := by
  intro l
  induction l with
  | nil => intro _ i h; simp at h
  | cons b l ih =>
    intro h i hi
    simp only [nF] at h
    cases i with
    | zero => cases b <;> simp at h ⊢
    | succ i => simpa using ih (by omega) i (by simpa using hi)

theorem lst_set {listed : Array Bool} {i : Nat} (hi : i < listed.size) (k : Nat) : Lst (listed.setIfInBounds i true) k ↔ Lst listed k ∨ k = i := by
  unfold Lst
  simp only [Array.getD_eq_getD_getElem?, Array.getElem?_setIfInBounds]
  by_cases h : i = k
  · subst h; simp [hi]
  · simp [h, Ne.symm h]

theorem ready_iff {listed : Array Bool} (hsz : listed.size = ops.size) {i : Nat} : i ∈ Region.ready .any ops listed ↔ ∃ o, ops[i]? = some o ∧ ¬ Lst listed i ∧ ∀ j, Dir ops j i → Lst listed j := by
  unfold Region.ready
  simp only [List.mem_filter, List.mem_range, Bool.and_eq_true]
  constructor
  · rintro ⟨h1, h2, h3⟩
    have ho : ops[i]? = some ops[i] := Array.getElem?_eq_getElem h1
    refine ⟨ops[i], ho, ?_, ?_⟩
    · have : i < listed.size := by omega
      unfold Lst
      simp only [Array.getD_eq_getD_getElem?, Array.getElem?_eq_getElem this, Option.getD_some] at h2 ⊢
      simpa using h2
    · rintro j ⟨o', ho', e, he, hb, rfl⟩
      rw [ho] at ho'
      cases ho'
      simp only [ho, Option.map_some, Option.getD_some, Array.all_eq_true_iff_forall_mem] at h3
      have := h3 e (by simpa using he)
      rw [hb] at this
      simpa [Lst] using this
  · rintro ⟨o, ho, h1, h2⟩
    have hi := (Array.getElem?_eq_some_iff.1 ho).1
    refine ⟨hi, ?_, ?_⟩
    · have : i < listed.size := by omega
      unfold Lst at h1
      simp only [Array.getD_eq_getD_getElem?, Array.getElem?_eq_getElem this, Option.getD_some] at h1 ⊢
      simpa using h1
    · simp only [ho, Option.map_some, Option.getD_some, Array.all_eq_true_iff_forall_mem]
      intro e he
      cases hb : Region.binds .any e with
      | false => rfl
      | true => simpa [Lst] using h2 e.on ⟨o, ho, e, by simpa using he, hb, rfl⟩

theorem all_of_no_ready (hR : ROk ops) {listed : Array Bool} (hsz : listed.size = ops.size) (h : Region.ready .any ops listed = []) : ∀ i, i < ops.size → Lst listed i := by
  intro i
  induction i using Nat.strongRecOn with
  | _ i ih =>
    intro hi
    by_cases hl : Lst listed i
    · exact hl
    · have : i ∈ Region.ready .any ops listed := (ready_iff hsz).2 ⟨ops[i], Array.getElem?_eq_getElem hi, hl, fun j hj => by
        have := hR.back i j hj
        exact ih j this (by omega)⟩
      rw [h] at this
      cases this

theorem finish {K : Env → World → Prop} {Q : Exit → Act → World → Prop} {listed : Array Bool} {p : List Nat} {ld : List (Nat × Shape × Value × Value)} {V : Nat → Value} {E : Nat → Env} {env : Env} {a : Act} {w : World} {pbs : List Nat} {fuel : Nat}
    (hall : ∀ i, i < ops.size → Lst listed i) (hs : Sim P r nt dfr ws a0 ops (Lst listed) p ld V E env a w) (h : drawDen P nt ops.toList pbs (fuel + 1) p ld env w K)
    (hf : firstNE P p (enumFrom 0 ops.toList) = none) (hQ : ∀ env a w, Aft nt dfr ws a0 env a → K env w → Q .normal a w) : Q .normal a w := by
  have hr : readyE P p (enumFrom 0 ops.toList) = [] := by
    cases hx : readyE P p (enumFrom 0 ops.toList) with
    | nil => rfl
    | cons x l =>
      obtain ⟨i, o⟩ := x
      obtain ⟨h1, h2, _⟩ := (readyE_mem (P := P) (done := p) (i := i) (o := o) _).1 (by rw [hx]; simp)
      exact absurd (hs.sub i (hall i (Array.getElem?_eq_some_iff.1 (mem_enum0.1 h1)).1)) h2
  simp only [drawDen, hf, hr] at h
  have hK : K env w := by
    cases hb : Nat.beq p.length ops.toList.length with
    | false => rw [hb] at h; exact h.elim
    | true => rw [hb] at h; exact h
  refine hQ env a w ⟨fun s u hu => hs.cur s u (fun j oj hj hnd _ => absurd (hall j (hs.lt j hj)) hnd) hu, hs.size, hs.defers, hs.same⟩ hK

theorem drawn_main (hP : POk P) (hR : ROk ops) {n : Nat} {K : Env → World → Prop} {Q : Exit → Act → World → Prop} (hws : ∀ d ∈ dsts ops.toList, d ∈ ws)
    (hQ : ∀ env a w, Aft nt dfr ws a0 env a → K env w → Q .normal a w) :
    ∀ (m : Nat) (listed : Array Bool) (a : Act) (w : World) (p : List Nat) (ld : List (Nat × Shape × Value × Value)) (V : Nat → Value) (E : Nat → Env) (env : Env) (fuel : Nat),
      listed.size = ops.size → nF listed.toList ≤ m → Sim P r nt dfr ws a0 ops (Lst listed) p ld V E env a w →
      drawDen P nt ops.toList (preBits ops.toList []) fuel p ld env w K → wpAnyIn (Fr r) n P .any ops Q m listed a w := by
  intro m
  induction m with
  | zero =>
    intro listed a w p ld V E env fuel hsz hm hs h
    have hall : ∀ i, i < ops.size → Lst listed i := by
      intro i hi
      have := nF_zero listed.toList (by omega) i (by simpa [hsz] using hi)
      have h2 : listed[i]? = some true := by simpa using this
      simp [Lst, Array.getD_eq_getD_getElem?, h2]
    obtain ⟨fuel', p', ld', V', E', env', hs', h', hf⟩ := normalize hP hR fuel p ld V E env hs h
    refine ⟨?_, finish hall hs' h' hf hQ⟩
    cases hx : Region.ready .any ops listed with
    | nil => rfl
    | cons i l =>
      obtain ⟨o, ho, hn, _⟩ := (ready_iff hsz (i := i)).1 (by rw [hx]; simp)
      exact absurd (hall i (Array.getElem?_eq_some_iff.1 ho).1) hn
  | succ m ih =>
    intro listed a w p ld V E env fuel hsz hm hs h
    obtain ⟨fuel', p', ld', V', E', env', hs', h', hf⟩ := normalize hP hR fuel p ld V E env hs h
    refine ⟨fun hr => finish (all_of_no_ready hR hsz hr) hs' h' hf hQ, fun i hi => ?_⟩
    obtain ⟨o, ho, hnd, hpre⟩ := (ready_iff hsz).1 hi
    have hil : i < listed.size := by rw [hsz]; exact (Array.getElem?_eq_some_iff.1 ho).1
    have hD' := lst_set hil
    have hsz' : (listed.setIfInBounds i true).size = ops.size := by simpa using hsz
    have hm' : nF (listed.setIfInBounds i true).toList ≤ m := by
      have hfalse : listed.toList[i]? = some false := by
        have : listed[i]? = some listed[i] := Array.getElem?_eq_getElem hil
        unfold Lst at hnd
        simp only [Array.getD_eq_getD_getElem?, this, Option.getD_some] at hnd
        have h2 : listed[i] = false := by simpa using hnd
        simp [hil, h2]
      have := nF_set listed.toList i hfalse
      rw [Array.toList_setIfInBounds]
      omega
    by_cases hip : i ∈ p'
    · obtain ⟨_, _, hex, _⟩ := hs'.pend i hip hnd o ho
      refine hex n Q a _ (fun s hsl u hu => hs'.look i hip hnd o ho s hsl (fun j oj _ _ hpj => pre_preds hs'.closedD hpre hpj) u hu) ?_
      exact ih _ _ _ _ _ _ _ _ _ hsz' hm' (hs'.take hR ho hip hnd hpre hws hD') h'
    · have hok : okPreds p' o = true := (okPreds_iff ho).2 fun j hj => hs'.sub j (hpre j hj)
      have heff := firstNE_none _ hf i o (mem_enum0.2 ho) hip hok
      have hmem := (readyE_mem (P := P) (done := p') (i := i) (o := o) (enumFrom 0 ops.toList)).2 ⟨mem_enum0.2 ho, hip, heff, hok⟩
      simp only [drawDen, hf] at h'
      cases hx : readyE P p' (enumFrom 0 ops.toList) with
      | nil => rw [hx] at hmem; cases hmem
      | cons e es =>
        rw [hx] at hmem h'
        have hstep := allOf_mem _ h' (i, o) hmem
        refine stepDen_sound hP ho hstep (fun s hsl u hu => hs'.cur s u (fun j oj hj hjd hoj hjs => ?_) hu) fun v w' hv hd => ?_
        · rcases hR.apart i j o oj s ho hoj hjs hsl with e | e | e
          · exact hip (e ▸ hj)
          · exact hjd (pre_preds hs'.closedD hpre e)
          · exact hip (pre_closed (D := (· ∈ p')) hs'.closedP e hj)
        · obtain ⟨hd1, hd2⟩ := stabs_elim _ hv
          refine ih _ _ _ _ _ _ _ _ _ hsz' hm' (hs'.eff hR ho hip hpre hd (fun j sh av v hj hjn => ?_) hws hD') hd1
          rcases hd2 j sh av v hj with hb | hb
          · exact absurd (pre_preds hs'.closedD hpre (pre_bits hb)) hjn
          · exact hb

/-- **A REGION THAT DRAWS ITS ORDER.** -/
theorem drawnDen_sound (hP : POk P) {id n : Nat} {K : Env → World → Prop} {Q : Exit → Act → World → Prop} {env : Env} {a : Act} {w : World} (hws : ∀ d ∈ dsts ops.toList, d ∈ ws)
    (hQ : ∀ env a w, Aft nt dfr ws a0 env a → K env w → Q .normal a w) (ha : Aft nt dfr ws a0 env a) (h : drawnDen P nt ops.toList env w K) : (Code.region id ops true).wpIn (Fr r) n P Q a w := by
  unfold drawnDen at h
  cases hb : regionOk ops.toList (preBits ops.toList []) with
  | false => rw [hb] at h; exact h.elim
  | true =>
    rw [hb] at h
    have hR := regionOk_spec hb
    refine wpIn_region_any hP.mixed ?_
    have hno : ∀ i, ¬ Lst (Array.replicate ops.size false) i := by
      intro i hi
      unfold Lst at hi
      simp only [Array.getD_eq_getD_getElem?, Array.getElem?_replicate] at hi
      by_cases h2 : i < ops.size
      · simp [h2] at hi
      · simp [h2] at hi
    refine drawn_main (V := fun _ => undef) (E := fun _ => []) hP hR hws hQ ops.size (Array.replicate ops.size false) a w.drew [] [] env _ (by simp) ?_ ?_ h
    · have : ∀ k, nF (List.replicate k false) = k := by
        intro k
        induction k with
        | zero => rfl
        | succ k ih => simp [List.replicate_succ, nF, ih]; omega
      simp [this]
    · exact ⟨fun i hi => absurd hi (hno i), fun i hi => by simp at hi, fun i j hi => by simp at hi, fun i j hi => absurd hi (hno i), fun i hi => by simp at hi, fun i hi => by simp at hi,
        fun i hi => by simp at hi, fun s u _ hu => ha.agr s u hu, fun j oj s hj => by simp at hj, ha.size, ha.defers, ha.same⟩
end
end Gp
