import Derived.Test.YtjejhaefbhbghaaPool
/- The rows of ports that are tried. -/
namespace Go.Proofs
open Gp
open Gp.Pool (stepL stepL_get alike cls oth wantsL)
set_option maxRecDepth 100000

/-- What lies there since a world: new rows. -/
structure Inv3 (w W : World) (rs : List (Nat × List Value)) : Prop where
  ext : Ext w W
  rows : ∀ r ∈ rs, Row W r.1 r.2 ∧ w.heap.size ≤ r.1
  nd : (rs.map Prod.fst).Nodup

theorem Inv3.step {w W W' : World} {rs : List (Nat × List Value)} (h : Inv3 w W rs) (f : Ext W W') : Inv3 w W' rs :=
  ⟨h.ext.trans f, fun r hr => ⟨(h.rows r hr).1.ext f, (h.rows r hr).2⟩, h.nd⟩

theorem Inv3.al {w W : World} {rs : List (Nat × List Value)} (h : Inv3 w W rs) {T : TypeId} {l : List Value} {K : Addr → World → Prop} (hK : ∀ b W', Inv3 w W' ((b, l) :: rs) → K ⟨b, 0, none⟩ W') : Al W (.cells ⟨l⟩ T) K := by
  refine Al_e fun b W' r e z f => hK b W' ⟨h.ext.trans f, fun q hq => ?_, ?_⟩
  · rcases List.mem_cons.1 hq with rfl | hq
    · exact ⟨r, by have := h.ext.size; simp only; omega⟩
    · exact ⟨(h.rows q hq).1.ext f, (h.rows q hq).2⟩
  · simp only [List.map_cons, List.nodup_cons]
    refine ⟨fun hm => ?_, h.nd⟩
    obtain ⟨q, hq, hqe⟩ := List.mem_map.1 hm
    have := (h.rows q hq).1.lt
    omega

theorem Inv3.end2 {w W : World} {rs : List (Nat × List Value)} (h : Inv3 w W rs) {x y : Nat} {l m l' m' : List Value} (hx : (x, l) ∈ rs) (hy : (y, m) ∈ rs) (hne : x ≠ y) (hl : l'.length = l.length) (hm : m'.length = m.length)
    (ho : l'.all isOne = true) (hp : m'.all isOne = true) {K : World → Prop} (hK : ∀ W', Ext w W' → Row W' x l' → Row W' y m' → w.heap.size ≤ x → w.heap.size ≤ y → K W') : StN l' W ⟨x, 0, none⟩ 0 fun W1 => StN m' W1 ⟨y, 0, none⟩ 0 K := by
  obtain ⟨r1, h1⟩ := h.rows _ hx
  obtain ⟨r2, h2⟩ := h.rows _ hy
  refine StN_full r1 ho hl fun W1 q1 f1 z1 => ?_
  refine StN_full (r2.fr (f1 (· = x) rfl) fun e => hne e.symm) hp hm fun W2 q2 f2 z2 => ?_
  refine hK W2 ?_ (q1.fr (f2 (· = y) rfl) hne) q2 h1 h2
  exact (h.ext.new (f1 (· = x) rfl) fun b hb e => by simp only at h1; omega).new (f2 (· = y) rfl) fun b hb e => by simp only at h2; omega

theorem YieldsP.back {w0 w1 w : World} {v : Value} {l : List Int} (h : YieldsP w1 w v l) (hf : w0.heap.size ≤ w1.heap.size) : YieldsP w0 w v l := by
  obtain ⟨h1, C, h2, h3⟩ := h
  exact ⟨h1, C, h2, fun W S hF hS => h3 W S hF fun b hb hlt => hS b (by omega) hlt⟩

theorem cls_p {p : Int} (_h : IntP p) : IntP (cls p).1 ∧ IntP (cls p).2 := by unfold cls IntP; split <;> simp
theorem oth_p {p : Int} (_h : IntP p) : IntP (oth p).1 ∧ IntP (oth p).2 := by unfold oth IntP; split <;> simp
theorem alike_le {lo want : Int} : lo ≤ alike lo want ∧ alike lo want ≤ lo + 1 := by unfold alike; omega

abbrev two (a b : Int) : List Value := [.int .i64 a, .int .i64 b]

theorem rows_ok {w : World} {p g : Nat} {lo hi want n : Int} {s : SliceV} (h : Row w p (poolV lo hi s g)) (hn : n ≠ 1) (h1 : IntP lo) (h2 : IntP hi) (h3 : IntP want) (h4 : want ≤ 65535) :
    c_pool_Pool_rows (some ⟨p, 0, none⟩) n want w fun r w' => Ext w w' ∧ ∃ b v0 v1 v2 v3, r = ⟨some ⟨b, 0, none⟩, 4, 4⟩ ∧ Row w' b [v0, v1, v2, v3] ∧ w.heap.size ≤ b ∧
      YieldsP w w' v0 (stepL (min hi (cls want).2) (max (want + 2) (alike (max lo (cls want).1) want)) 2) ∧ YieldsP w w' v1 (stepL (min hi (cls want).2) (alike (max lo (cls want).1) want) 2) ∧
      YieldsP w w' v2 (stepL (min hi (oth want).2) (alike (max lo (oth want).1) want) 2) ∧ YieldsP w w' v3 (stepL hi (alike lo (want + 1)) 2) := by
  apply ok_pool_Pool_rows
  unfold s_pool_Pool_rows
  have hn' : (n == 1) = false := by simp [hn]
  simp only [hn', cond_false]
  refine JoinP.of fun J hJ => ?_
  have hJ' : ∀ (x y : Nat) (W : World), Ext w W → Row W x (two (max lo (cls want).1) (min hi (cls want).2)) → Row W y (two (max lo (oth want).1) (min hi (oth want).2)) → w.heap.size ≤ x → w.heap.size ≤ y →
      J ((⟨x, 0, none⟩, ⟨y, 0, none⟩, ()), W) := by
    intro x y W hE rx ry lx ly
    refine hJ _ ?_
    obtain ⟨k1, k2⟩ := cls_p h3
    obtain ⟨k3, k4⟩ := oth_p h3
    have pn : IntP (max lo (cls want).1) := ⟨by have := h1.1; omega, by have := h1.2; have := k1.2; omega⟩
    have qn : IntP (min hi (cls want).2) := ⟨by have := h2.1; have := k2.1; omega, by have := h2.2; omega⟩
    have pf : IntP (max lo (oth want).1) := ⟨by have := h1.1; omega, by have := h1.2; have := k3.2; omega⟩
    have qf : IntP (min hi (oth want).2) := ⟨by have := h2.1; have := k4.1; omega, by have := h2.2; omega⟩
    generalize max lo (cls want).1 = nl at pn rx ⊢
    generalize min hi (cls want).2 = nh at qn rx ⊢
    generalize max lo (oth want).1 = fl at pf ry ⊢
    generalize min hi (oth want).2 = fh at qf ry ⊢
    have hd := Ext.drew W
    have hp := h.ext hE
    have x0 : ∀ W', Ext W W' → W'.cell? ⟨x, 0, none⟩ = some (.int .i64 nl) := fun W' f => (rx.ext f).cell 0
    have x1 : ∀ W', Ext W W' → W'.cell? ⟨x, 1, none⟩ = some (.int .i64 nh) := fun W' f => (rx.ext f).cell 1
    have y0 : ∀ W', Ext W W' → W'.cell? ⟨y, 0, none⟩ = some (.int .i64 fl) := fun W' f => (ry.ext f).cell 0
    have y1 : ∀ W', Ext W W' → W'.cell? ⟨y, 1, none⟩ = some (.int .i64 fh) := fun W' f => (ry.ext f).cell 1
    have p0 : ∀ W', Ext W W' → W'.cell? ⟨p, 0, none⟩ = some (.int .i64 lo) := fun W' f => (hp.ext f).cell 0
    have p1 : ∀ W', Ext W W' → W'.cell? ⟨p, 1, none⟩ = some (.int .i64 hi) := fun W' f => (hp.ext f).cell 1
    simp only [ex_some, Ld_eq, LdV_some, dec_int, add_mk, Nat.zero_add, Nat.add_zero, x0 _ hd, x1 _ hd, y0 _ hd, y1 _ hd, p0 _ hd, p1 _ hd]
    have w2 : IntKind.i64.wrap (want + 2) = want + 2 := by have := h3.1; rw [wrap_i64 (by omega) (by omega)]
    have w1 : IntKind.i64.wrap (want + 1) = want + 1 := by have := h3.1; rw [wrap_i64 (by omega) (by omega)]
    have a1 := alike_le (lo := nl) (want := want)
    have a2 := alike_le (lo := fl) (want := want)
    have a3 := alike_le (lo := lo) (want := want + 1)
    obtain ⟨pn1, pn2⟩ := pn
    obtain ⟨pf1, pf2⟩ := pf
    obtain ⟨h11, h12⟩ := h1
    obtain ⟨h31, h32⟩ := h3
    refine cm_pool_alike (alike_ok ⟨pn1, pn2⟩ ⟨h31, h32⟩ _) ?_
    rintro _ W1 ⟨rfl, g⟩
    have e1 := hd.trans g
    simp only [x0 _ e1, x1 _ e1, y0 _ e1, y1 _ e1, p0 _ e1, p1 _ e1, true_and, w1, w2, mx]
    refine cm_pool_step (step_ok (by omega) (by omega) qn (by omega) (by omega) _) ?_
    rintro v0 W2 ⟨g, yv0⟩
    have l0 := e1.size
    have yv0 := yv0.back (w0 := w) (by have := hE.size; omega)
    have e2 := e1.trans g
    simp only [x0 _ e2, x1 _ e2, y0 _ e2, y1 _ e2, p0 _ e2, p1 _ e2, true_and]
    refine cm_pool_alike (alike_ok ⟨pn1, pn2⟩ ⟨h31, h32⟩ _) ?_
    rintro _ W3 ⟨rfl, g⟩
    have yv0 := yv0.ext g
    have e3 := e2.trans g
    simp only [x0 _ e3, x1 _ e3, y0 _ e3, y1 _ e3, p0 _ e3, p1 _ e3, true_and]
    refine cm_pool_step (step_ok (by omega) (by omega) qn (by omega) (by omega) _) ?_
    rintro v1 W4 ⟨g, yv1⟩
    have l1 := e3.size
    have yv1 := yv1.back (w0 := w) (by have := hE.size; omega)
    have yv0 := yv0.ext g
    have e4 := e3.trans g
    simp only [y0 _ e4, y1 _ e4, p0 _ e4, p1 _ e4, true_and]
    refine cm_pool_alike (alike_ok ⟨pf1, pf2⟩ ⟨h31, h32⟩ _) ?_
    rintro _ W5 ⟨rfl, g⟩
    have yv0 := yv0.ext g
    have yv1 := yv1.ext g
    have e5 := e4.trans g
    simp only [y0 _ e5, y1 _ e5, p0 _ e5, p1 _ e5, true_and]
    refine cm_pool_step (step_ok (by omega) (by omega) qf (by omega) (by omega) _) ?_
    rintro v2 W6 ⟨g, yv2⟩
    have l2 := e5.size
    have yv2 := yv2.back (w0 := w) (by have := hE.size; omega)
    have yv0 := yv0.ext g
    have yv1 := yv1.ext g
    have e6 := e5.trans g
    simp only [p0 _ e6, p1 _ e6, true_and]
    refine cm_pool_alike (alike_ok ⟨h11, h12⟩ ⟨by omega, by omega⟩ _) ?_
    rintro _ W7 ⟨rfl, g⟩
    have yv0 := yv0.ext g
    have yv1 := yv1.ext g
    have yv2 := yv2.ext g
    have e7 := e6.trans g
    simp only [p0 _ e7, p1 _ e7, true_and]
    refine cm_pool_step (step_ok (by omega) (by omega) h2 (by omega) (by omega) _) ?_
    rintro v3 W8 ⟨g, yv3⟩
    have l3 := e7.size
    have yv3 := yv3.back (w0 := w) (by have := hE.size; omega)
    have yv0 := yv0.ext g
    have yv1 := yv1.ext g
    have yv2 := yv2.ext g
    have e8 := e7.trans g
    refine ⟨⟨yv0.1, yv1.1, yv2.1, yv3.1, trivial⟩, Al_e fun b W9 r9 hb z9 g => ?_⟩
    exact ⟨(hE.trans e8).trans g, b, v0, v1, v2, v3, by trivial, r9, by have := hE.size; have := e8.size; omega, yv0.ext g, yv1.ext g, yv2.ext g, yv3.ext g⟩
  clear hJ
  have c0 : ∀ W, Ext w W → W.cell? (Addr.add ⟨p, 0, none⟩ 0) = some (.int .i64 lo) := fun W f => (h.ext f).cell 0
  have c1 : ∀ W, Ext w W → W.cell? (Addr.add ⟨p, 0, none⟩ 1) = some (.int .i64 hi) := fun W f => (h.ext f).cell 1
  have hI : Inv3 w w.drew [] := ⟨Ext.drew w, fun r hr => by simp at hr, by simp⟩
  simp only [ex_some, Ld_eq, c0 _ (Ext.drew w), c1 _ (Ext.drew w), LdV_some, dec_int]
  repeat' (first
    | (with_reducible refine And.intro ?_ ?_)
    | (with_reducible exact c0 _ hI.ext)
    | (with_reducible exact c1 _ hI.ext)
    | ((with_reducible refine cm_pool_class (class_ok _ _) ?_); rintro _ _ W' ⟨rfl, rfl, f⟩; replace hI := hI.step f)
    | ((with_reducible refine cm_pool_other (other_ok _ _) ?_); rintro _ _ W' ⟨rfl, rfl, f⟩; replace hI := hI.step f)
    | ((with_reducible refine cm_pool_span_both (span_both_ok _ _ _ _ _) ?_); rintro _ _ W' ⟨rfl, rfl, f⟩; replace hI := hI.step f)
    | ((with_reducible refine Inv3.al hI ?_); clear hI; intro b W' hI))
  all_goals
    refine Inv3.end2 (l := two 0 0) (m := two 0 0) hI ?_ ?_ ?_ ?_ ?_ ?_ ?_ fun W' hE rx ry lx ly => hJ' _ _ _ hE rx ry lx ly
    · simp
    · simp
    · have := hI.nd
      simp at this
      omega
    · rfl
    · rfl
    · rfl
    · rfl

end Go.Proofs
