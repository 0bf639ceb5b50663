import Derived.Test.YtcoolonmnjacfaaHolesPure
/- Parts of a datagram: both answers are the same. -/
namespace Gp.Hol

theorem any_perm {L L' : List Pc} (hp : L.Perm L') (f : Pc → Bool) : L.any f = L'.any f := by
  rw [Bool.eq_iff_iff, List.any_eq_true, List.any_eq_true]
  exact ⟨fun ⟨p, h, e⟩ => ⟨p, hp.mem_iff.1 h, e⟩, fun ⟨p, h, e⟩ => ⟨p, hp.mem_iff.2 h, e⟩⟩

theorem add_perm {L L' : List Pc} (G : Good L) (hp : L.Perm L') (p : Pc) : (add L p).1 = (add L' p).1 ∧ (add L p).2.Perm (add L' p).2 := by
  have h1 : (p ∈ L) = (p ∈ L') := propext hp.mem_iff
  have h2 := any_perm hp (sh p)
  have h3 := lastE_perm G.one hp
  have h4 := far_perm hp
  have h5 : fits L (lastE L) p = fits L' (lastE L') p := by unfold fits; rw [h3, h4]
  unfold add
  by_cases c1 : may p ≠ 0
  · rw [if_pos c1, if_pos c1]; exact ⟨rfl, hp⟩
  rw [if_neg c1, if_neg c1]
  by_cases c2 : p ∈ L
  · rw [if_pos c2, if_pos (hp.mem_iff.1 c2)]; exact ⟨rfl, hp⟩
  rw [if_neg c2, if_neg (show ¬ p ∈ L' from fun h => c2 (hp.mem_iff.2 h)), h2]
  by_cases c3 : L'.any (sh p) = true
  · rw [if_pos c3, if_pos c3]; exact ⟨rfl, hp⟩
  rw [if_neg c3, if_neg c3, h5]
  by_cases c4 : fits L' (lastE L') p = false
  · rw [if_pos c4, if_pos c4]; exact ⟨rfl, hp⟩
  · rw [if_neg c4, if_neg c4]; exact ⟨rfl, hp.append_right _⟩

theorem Good.add' {L : List Pc} (G : Good L) (p : Pc) : Good (Gp.Hol.add L p).2 := by
  unfold Gp.Hol.add
  by_cases c1 : may p ≠ 0
  · rw [if_pos c1]; exact G
  rw [if_neg c1]
  by_cases c2 : p ∈ L
  · rw [if_pos c2]; exact G
  rw [if_neg c2]
  by_cases c3 : L.any (sh p) = true
  · rw [if_pos c3]; exact G
  rw [if_neg c3]
  by_cases c4 : fits L (lastE L) p = false
  · rw [if_pos c4]; exact G
  · rw [if_neg c4]; exact G.add (by simpa using c1) (by simpa using c3) (by simpa using c4)

theorem add_len (L : List Pc) (p : Pc) : (add L p).2.length ≤ L.length + 1 := by
  unfold add
  split
  · simp
  · split
    · simp
    · split
      · simp
      · split <;> simp

theorem Good.below {l : List Pc} (G : Good l) (h : 0 ≤ lastE l) : ∀ p ∈ l, pend p ≤ lastE l := by
  by_cases hex : ∃ q ∈ l, q.2.1 = false
  · obtain ⟨q, hq, hqm⟩ := hex
    rw [lastE_some G.one hq hqm]
    exact G.last q hq hqm
  · have := (lastE_neg G).2 fun q hq => by
      cases hb : q.2.1
      · exact absurd ⟨q, hq, hb⟩ hex
      · rfl
    omega

/-- It is all there just if the bytes are as many as the end tells. -/
theorem done_iff {l : List Pc} (G : Good l) (hs : l.Pairwise le) (h : 0 ≤ lastE l) : gaps 0 l (lastE l) = [] ↔ sum l = lastE l := by
  have := (gaps_nil (a := 0) (G.chain hs) (fun p hp => (G.ok p hp).1) (lastE l) (G.below h) h).1
  rw [this]; omega

/-- The bytes in their order are those that stand at their places. -/
theorem cat_eq {l : List Pc} (G : Good l) (hs : l.Pairwise le) (h : 0 ≤ lastE l) (hsum : sum l = lastE l) {out : List UInt8} (hl : (out.length : Int) = lastE l)
    (hset : ∀ p ∈ l, ∀ k, k < p.2.2.length → out[p.1.toNat + k]? = p.2.2[k]?) : cat l = out := by
  have hg := (done_iff G hs h).2 hsum
  have hc := G.chain hs
  have h0 : ∀ p ∈ l, (0 : Int) ≤ p.1 := fun p hp => (G.ok p hp).1
  have hlen : (cat l).length = out.length := by have := cat_len l; omega
  refine List.ext_getElem? fun i => ?_
  by_cases hi : i < (cat l).length
  · obtain ⟨p, hp, k, hk, he⟩ := cat_of hc h0 hg i hi
    have h1 := cat_get hc h0 hg p hp k hk
    have h2 := hset p hp k hk
    have := h0 p hp
    have e1 : (p.1 - 0).toNat + k = i := by omega
    have e2 : p.1.toNat + k = i := by omega
    rw [e1] at h1
    rw [e2] at h2
    rw [h1, h2]
  · rw [List.getElem?_eq_none (by omega), List.getElem?_eq_none (by omega)]

/-! ### Where nothing came -/
def cov (L : List Pc) (a : Int) : Bool := L.any fun p => decide (p.1 ≤ a) && decide (a < pend p)
def runs (f : Int → Bool) : Nat → List Int
  | 0 => []
  | n + 1 => if f (n : Int) = true then runs f n else if (runs f n).getLast? = some (n : Int) then (runs f n).dropLast ++ [(n : Int) + 1] else runs f n ++ [(n : Int), (n : Int) + 1]
def flatG (l : List (Int × Int)) : List Int := l.flatMap fun g => [g.1, g.2]

theorem runs_succ (f : Int → Bool) (n : Nat) : runs f (n + 1) = if f (n : Int) = true then runs f n else if (runs f n).getLast? = some (n : Int) then (runs f n).dropLast ++ [(n : Int) + 1] else runs f n ++ [(n : Int), (n : Int) + 1] := rfl

theorem runs_le (f : Int → Bool) : ∀ n, ∀ z ∈ runs f n, z ≤ (n : Int) := by
  intro n
  induction n with
  | zero => simp [runs]
  | succ n ih =>
    intro z hz
    rw [runs_succ] at hz
    split at hz
    · have := ih z hz; omega
    · split at hz
      · rcases List.mem_append.1 hz with h | h
        · have := ih z ((List.dropLast_sublist _).subset h); omega
        · rw [List.mem_singleton.1 h]; omega
      · rcases List.mem_append.1 hz with h | h
        · have := ih z h; omega
        · simp only [List.mem_cons, List.not_mem_nil, or_false] at h; omega

theorem runs_cov {f : Int → Bool} {m : Nat} : ∀ {n : Nat}, m ≤ n → (∀ i : Nat, m ≤ i → i < n → f i = true) → runs f n = runs f m := by
  intro n
  induction n with
  | zero => intro h _; rw [show m = 0 by omega]
  | succ n ih =>
    intro h hf
    by_cases he : m = n + 1
    · rw [he]
    · rw [runs_succ]
      rw [if_pos (hf n (by omega) (by omega))]
      exact ih (by omega) fun i h1 h2 => hf i h1 (by omega)

theorem runs_unc {f : Int → Bool} {m : Nat} (hfr : (runs f m).getLast? ≠ some (m : Int)) : ∀ {n : Nat}, m < n → (∀ i : Nat, m ≤ i → i < n → f i = false) → runs f n = runs f m ++ [(m : Int), (n : Int)] := by
  intro n
  induction n with
  | zero => intro h _; omega
  | succ n ih =>
    intro h hf
    rw [runs_succ]
    rw [if_neg (by rw [hf n (by omega) (by omega)]; simp)]
    by_cases he : m = n
    · subst he
      rw [if_neg hfr]
      simp
    · rw [ih (by omega) fun i h1 h2 => hf i h1 (by omega)]
      rw [if_pos (by rw [show runs f m ++ [(m : Int), (n : Int)] = (runs f m ++ [(m : Int)]) ++ [(n : Int)] by simp, List.getLast?_append]; simp)]
      rw [show runs f m ++ [(m : Int), (n : Int)] = (runs f m ++ [(m : Int)]) ++ [(n : Int)] by simp, List.dropLast_concat]
      simp

theorem cov_true {L : List Pc} {p : Pc} (hp : p ∈ L) {i : Int} (h1 : p.1 ≤ i) (h2 : i < pend p) : cov L i = true :=
  List.any_eq_true.2 ⟨p, hp, by rw [decide_eq_true h1, decide_eq_true h2]; rfl⟩

theorem cov_false {L : List Pc} {i : Int} (h : ∀ p ∈ L, i < p.1 ∨ pend p ≤ i) : cov L i = false :=
  List.any_eq_false.2 fun p hp => by
    rcases h p hp with h | h
    · rw [decide_eq_false (by omega)]; simp
    · rw [decide_eq_false (show ¬ i < pend p by omega)]; simp

theorem runs_gaps {L : List Pc} (G : Good L) {e : Nat} : ∀ (l : List Pc) (a : Nat), Chain l → (∀ p ∈ l, p ∈ L) → (l.Pairwise fun p q => sh p q = false) → (∀ p ∈ l, (a : Int) ≤ p.1) → (∀ p ∈ L, p ∈ l ∨ pend p ≤ (a : Int)) → (∀ p ∈ l, pend p ≤ (e : Int)) → a ≤ e →
    (∀ p ∈ L, p.2.1 = false → pend p = (e : Int)) → (runs (cov L) a).getLast? ≠ some (a : Int) → runs (cov L) e = runs (cov L) a ++ flatG (gaps (a : Int) l (e : Int)) := by
  intro l
  induction l with
  | nil =>
    intro a _ _ _ _ hd _ hae _ hfr
    unfold gaps
    by_cases h : (e : Int) > (a : Int)
    · rw [if_pos h, runs_unc hfr (n := e) (by omega) fun i h1 h2 => cov_false fun p hp => .inr (by
        rcases hd p hp with h | h
        · simp at h
        · omega)]
      rfl
    · rw [if_neg h, show e = a by omega]
      simp [flatG]
  | cons p l ih =>
    intro a hc hsub hap ha hd hpe hae hlast hfr
    unfold Chain at hc
    rw [List.pairwise_cons] at hc hap
    have hpL := hsub p (by simp)
    have hp0 := ha p (by simp)
    have hpp := hpe p (by simp)
    have hok := G.ok p hpL
    have hpend : p.1 ≤ pend p := by unfold pend; omega
    have hmax : max (a : Int) (pend p) = pend p := by omega
    obtain ⟨m, hm⟩ : ∃ m : Nat, p.1 = (m : Int) := ⟨p.1.toNat, by omega⟩
    obtain ⟨n, hn⟩ : ∃ n : Nat, pend p = (n : Int) := ⟨(pend p).toNat, by omega⟩
    have hseg : runs (cov L) n = runs (cov L) m := runs_cov (by omega) fun i h1 h2 => cov_true hpL (by omega) (by omega)
    have hd' : ∀ q ∈ L, q ∈ l ∨ pend q ≤ (n : Int) := fun q hq => by
      rcases hd q hq with h | h
      · rcases List.mem_cons.1 h with rfl | h
        · exact .inr (by omega)
        · exact .inl h
      · exact .inr (by omega)
    have hstep : (runs (cov L) n).getLast? ≠ some (n : Int) → runs (cov L) e = runs (cov L) n ++ flatG (gaps (n : Int) l (e : Int)) := fun hf =>
      ih n hc.2 (fun q hq => hsub q (by simp [hq])) hap.2 (fun q hq => by rw [← hn]; exact hc.1 q hq) hd' (fun q hq => hpe q (by simp [hq])) (by omega) hlast hf
    unfold gaps
    rw [hmax, hn, hm]
    by_cases hgt : (m : Int) > (a : Int)
    · rw [if_pos hgt]
      have hu := runs_unc hfr (n := m) (by omega) fun i h1 h2 => cov_false fun q hq => by
        rcases hd q hq with h | h
        · rcases List.mem_cons.1 h with rfl | h
          · exact .inl (by omega)
          · have := hc.1 q h; exact .inl (by omega)
        · exact .inr (by omega)
      by_cases hemp : p.2.2 = []
      · -- an empty part is the last one
        have hmn : n = m := by
          have : pend p = p.1 := by unfold pend; rw [hemp]; simp
          omega
        have hmo : p.2.1 = false := by
          cases hb : p.2.1
          · rfl
          · exact absurd hemp (hok.2.2 hb)
        have hee := hlast p hpL hmo
        have hl : l = [] := by
          cases l with
          | nil => rfl
          | cons q l' =>
            have h1 := hc.1 q (by simp)
            have h2 := hpe q (by simp)
            have h3 := hap.1 q (by simp)
            have hqe : q.2.2 = [] := by
              have : q.2.2.length = 0 := by unfold pend at *; omega
              exact List.length_eq_zero_iff.1 this
            have hq1 : q.1 = p.1 := by unfold pend at *; rw [hemp, hqe] at *; simp only [List.length_nil] at *; omega
            unfold sh at h3
            rw [hemp, hqe, hq1] at h3
            simp at h3
        subst hl
        rw [hmn]
        unfold gaps
        rw [if_neg (by omega)]
        rw [show e = m by omega, hu]
        rfl
      · have hlt : m < n := by
          have : 0 < p.2.2.length := List.length_pos_iff.2 hemp
          unfold pend at hn; omega
        rw [hstep (by rw [hseg, hu, show runs (cov L) a ++ [(a : Int), (m : Int)] = (runs (cov L) a ++ [(a : Int)]) ++ [(m : Int)] by simp, List.getLast?_append]; simp; omega), hseg, hu]
        simp [flatG]
    · rw [if_neg hgt, List.nil_append]
      have hma : m = a := by omega
      subst hma
      rw [hstep ?_, hseg]
      rw [hseg]
      by_cases hemp : p.2.2 = []
      · have hmn : n = m := by
          have : pend p = p.1 := by unfold pend; rw [hemp]; simp
          omega
        rw [hmn]; exact hfr
      · have hlt : m < n := by
          have : 0 < p.2.2.length := List.length_pos_iff.2 hemp
          unfold pend at hn; omega
        intro hg
        have := runs_le (cov L) m _ (List.mem_of_getLast? hg)
        omega

theorem gaps_far : ∀ (l : List Pc) (a last : Int), last < 0 → 0 ≤ a → gaps a l last = gaps a l (l.foldl (fun n q => max n (pend q)) a) := by
  intro l
  induction l with
  | nil => intro a last h1 h2; unfold gaps; simp; omega
  | cons p l ih =>
    intro a last h1 h2
    unfold gaps
    rw [ih (max a (pend p)) last h1 (by omega), List.foldl_cons]

/-- Place by place or in the order of their places: it is the same where nothing came. -/
theorem gaps_runs {l L : List Pc} (G : Good l) (hs : l.Pairwise le) (hp : l.Perm L) : runs (cov L) (if lastE L < 0 then far L else lastE L).toNat = flatG (gaps 0 l (lastE l)) := by
  have hc : cov L = cov l := by funext a; unfold cov; exact (any_perm hp _).symm
  rw [hc, ← lastE_perm G.one hp, ← far_perm hp]
  have hfar0 : 0 ≤ far l := (far_le (n := 0)).1
  by_cases hneg : lastE l < 0
  · rw [if_pos hneg, gaps_far l 0 _ hneg (Int.le_refl _)]
    have := runs_gaps G (e := (far l).toNat) l 0 (G.chain hs) (fun p h => h) G.apart (fun p h => (G.ok p h).1) (fun p h => .inl h) (fun p h => by have := (far_iff hfar0).1 (Int.le_refl _) p h; omega) (by omega)
      (fun p h hm => absurd ((lastE_neg G).1 hneg p h) (by rw [hm]; simp)) (by simp [runs])
    rw [show (((far l).toNat : Nat) : Int) = far l by omega] at this
    rw [this]
    rfl
  · rw [if_neg hneg]
    have := runs_gaps G (e := (lastE l).toNat) l 0 (G.chain hs) (fun p h => h) G.apart (fun p h => (G.ok p h).1) (fun p h => .inl h) (fun p h => by have := G.below (by omega) p h; omega) (by omega)
      (fun p h hm => by rw [lastE_some G.one h hm]; have := (G.ok p h).1; unfold pend; omega) (by simp [runs])
    rw [show (((lastE l).toNat : Nat) : Int) = lastE l by omega] at this
    rw [this]
    rfl

/-! ### Parts that are cut of one -/
theorem Good.sub {L M : List Pc} (G : Good M) (h : L.Sublist M) : Good L :=
  ⟨fun p hp => G.ok p (h.subset hp), G.apart.sublist h, fun p hp e q hq => G.last p (h.subset hp) e q (h.subset hq), G.one.sublist h⟩

theorem sh_self (p : Pc) : sh p p = true := by
  unfold sh
  cases hb : p.2.2 with
  | nil => simp
  | cons a l =>
    have : p.1 < pend p := by unfold pend; rw [hb]; simp only [List.length_cons]; omega
    simp [this]

theorem add_fresh {L : List Pc} {p : Pc} (G : Good (L ++ [p])) (hm : may p = 0) : add L p = (0, L ++ [p]) := by
  have hap := (List.pairwise_append.1 G.apart).2.2
  have hone := (List.pairwise_append.1 G.one).2.2
  have GL := G.sub (List.sublist_append_left L [p])
  have hno : L.any (sh p) = false := List.any_eq_false.2 fun q hq => by rw [sh_comm, hap q hq p (by simp)]; simp
  have hmem : p ∉ L := fun h => by
    have := List.any_eq_false.1 hno p h
    rw [sh_self] at this
    simp at this
  have hpo := may_ok hm
  have hfit : fits L (lastE L) p = true := by
    unfold fits
    cases hb : p.2.1
    · have h1 : ∀ q ∈ L, q.2.1 = true := fun q hq => by
        rcases hone q hq p (by simp) with h | h
        · exact h
        · rw [hb] at h; cases h
      rw [if_neg (by simp), decide_eq_true ((lastE_neg GL).2 h1), decide_eq_true ((far_iff (by unfold pend; omega)).2 fun q hq => G.last p (by simp) hb q (by simp [hq]))]
      rfl
    · rw [if_pos rfl]
      by_cases hn : lastE L < 0
      · rw [decide_eq_true hn, Bool.true_or]
      · by_cases hex : ∃ q ∈ L, q.2.1 = false
        · obtain ⟨q, hq, hqm⟩ := hex
          rw [lastE_some GL.one hq hqm, decide_eq_true (G.last q (by simp [hq]) hqm p (by simp)), Bool.or_true]
        · exact absurd ((lastE_neg GL).2 fun q hq => by
            cases hc : q.2.1
            · exact absurd ⟨q, hq, hc⟩ hex
            · rfl) hn
  unfold add
  rw [if_neg (by rw [hm]; simp), if_neg hmem, if_neg (by rw [hno]; simp), if_neg (by rw [hfit]; simp)]

theorem add_again {L : List Pc} {p : Pc} (hp : p ∈ L) (hm : may p = 0) : add L p = (0, L) := by
  unfold add
  rw [if_neg (by rw [hm]; simp), if_pos hp]

end Gp.Hol

namespace Gp.Hol

/-- The parts that bytes are cut into, up to a place. -/
structure Cut (b : List UInt8) (n : Nat) (l : List Pc) : Prop where
  each : ∀ p ∈ l, p.2.1 = true ∧ 0 ≤ p.1 ∧ pend p ≤ (n : Int) ∧ p.2.2 ≠ [] ∧ may p = 0 ∧ ∀ k, k < p.2.2.length → b[p.1.toNat + k]? = p.2.2[k]?
  chain : Chain l
  sum : Gp.Hol.sum l = (n : Int)
  le : n ≤ b.length

theorem sum_app (l : List Pc) (p : Pc) : sum (l ++ [p]) = sum l + (p.2.2.length : Int) := by
  unfold sum; simp

theorem Cut.nil (b : List UInt8) : Cut b 0 [] := ⟨by simp, by simp [Chain], rfl, by omega⟩

theorem cut_get {b : List UInt8} {n m k : Nat} (hk : k < ((b.take m).drop n).length) : b[n + k]? = ((b.take m).drop n)[k]? := by
  rw [List.length_drop, List.length_take] at hk
  rw [List.getElem?_drop, List.getElem?_take_of_lt (by omega)]

theorem Cut.step {b : List UInt8} {n : Nat} {l : List Pc} (h : Cut b n l) {m : Nat} (hm : n + m < b.length) (hm0 : 0 < m) (h8 : m % 8 = 0) (hb : b.length ≤ 65535) : Cut b (n + m) (l ++ [((n : Int), true, (b.take (n + m)).drop n)]) := by
  have hlen : ((b.take (n + m)).drop n).length = m := by rw [List.length_drop, List.length_take]; omega
  have hpe : pend ((n : Int), true, (b.take (n + m)).drop n) = ((n + m : Nat) : Int) := by unfold pend; simp only; rw [hlen]; omega
  refine ⟨fun p hp => ?_, ?_, by rw [sum_app, h.sum]; simp only; rw [hlen]; omega, by omega⟩
  · rcases List.mem_append.1 hp with hp | hp
    · obtain ⟨a1, a2, a3, a4⟩ := h.each p hp
      exact ⟨a1, a2, by omega, a4⟩
    · rw [List.mem_singleton.1 hp]
      refine ⟨rfl, by simp only; omega, by rw [hpe]; omega, fun e => ?_, ?_, fun k hk => ?_⟩
      · simp only at e; rw [e] at hlen; simp at hlen; omega
      · unfold may
        simp only
        rw [hlen, if_neg (by omega), if_neg (by omega)]
      · simp only
        rw [Int.toNat_natCast]
        exact cut_get hk
  · unfold Chain
    rw [List.pairwise_append]
    exact ⟨h.chain, by simp, fun p hp q hq => by rw [List.mem_singleton.1 hq]; exact (h.each p hp).2.2.1⟩

theorem chain_sh {p q : Pc} (h : pend p ≤ q.1) (hp : p.2.2 ≠ []) : sh p q = false := by
  unfold sh
  have : p.2.2.isEmpty = false := by cases hh : p.2.2 with
    | nil => exact absurd hh hp
    | cons _ _ => rfl
  rw [this, decide_eq_false (show ¬ q.1 < pend p by omega)]
  simp

/-- All parts, with the last one. -/
def allOf (b : List UInt8) (n : Nat) (l : List Pc) : List Pc := l ++ [((n : Int), false, b.drop n)]

theorem Cut.all {b : List UInt8} {n : Nat} {l : List Pc} (h : Cut b n l) (hb : b.length ≤ 65535) :
    Good (allOf b n l) ∧ (∀ p ∈ allOf b n l, may p = 0) ∧ lastE (allOf b n l) = (b.length : Int) ∧ Gp.Hol.sum (allOf b n l) = (b.length : Int) ∧ ∀ p ∈ allOf b n l, ∀ k, k < p.2.2.length → b[p.1.toNat + k]? = p.2.2[k]? := by
  have hle := h.le
  have hlen : (b.drop n).length = b.length - n := List.length_drop
  have hpe : pend ((n : Int), false, b.drop n) = (b.length : Int) := by unfold pend; simp only; rw [hlen]; omega
  have hG : Good (allOf b n l) := by
    unfold allOf
    refine ⟨fun p hp => ?_, ?_, fun p hp hm q hq => ?_, ?_⟩
    · rcases List.mem_append.1 hp with hp | hp
      · obtain ⟨a1, a2, a3, a4, _⟩ := h.each p hp
        exact ⟨a2, by omega, fun _ => a4⟩
      · rw [List.mem_singleton.1 hp]
        exact ⟨by simp only; omega, by rw [hpe]; omega, fun e => by cases e⟩
    · rw [List.pairwise_append]
      refine ⟨?_, by simp, fun p hp q hq => by rw [List.mem_singleton.1 hq]; exact chain_sh (h.each p hp).2.2.1 (h.each p hp).2.2.2.1⟩
      have hc := h.chain
      unfold Chain at hc
      refine List.Pairwise.imp_of_mem (fun {p q} hp hq hpq => chain_sh hpq (h.each p hp).2.2.2.1) hc
    · rcases List.mem_append.1 hp with hp | hp
      · rw [(h.each p hp).1] at hm; cases hm
      · rw [List.mem_singleton.1 hp, hpe]
        rcases List.mem_append.1 hq with hq | hq
        · have := (h.each q hq).2.2.1; omega
        · rw [List.mem_singleton.1 hq, hpe]; exact Int.le_refl _
    · rw [List.pairwise_append]
      exact ⟨List.Pairwise.imp_of_mem (fun {p q} hp _ _ => .inl (h.each p hp).1) h.chain, by simp, fun p hp q hq => .inl (h.each p hp).1⟩
  refine ⟨hG, fun p hp => ?_, ?_, ?_, fun p hp k hk => ?_⟩
  · rcases List.mem_append.1 hp with hp | hp
    · exact (h.each p hp).2.2.2.2.1
    · rw [List.mem_singleton.1 hp]
      unfold may
      simp only
      rw [hlen, if_neg (by simp), if_neg (by omega)]
  · rw [lastE_some hG.one (p := ((n : Int), false, b.drop n)) (by unfold allOf; simp) rfl, hpe]
  · unfold allOf
    rw [sum_app, h.sum]
    simp only
    rw [hlen]; omega
  · rcases List.mem_append.1 hp with hp | hp
    · exact (h.each p hp).2.2.2.2.2 k hk
    · rw [List.mem_singleton.1 hp] at hk ⊢
      simp only
      rw [Int.toNat_natCast]
      exact List.getElem?_drop.symm

end Gp.Hol
