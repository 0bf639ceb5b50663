import Derived.Test.YtfpoefdigpfohaaGreatDoorW3
section
namespace Gp
open Go
theorem Tv {k : IntKind} {n : Int} (h : (Lit.int k n).wf = true) : k.min <= n ∧ n <= k.max := by
  simpa [Lit.wf] using h
theorem wf_u8 {n : Int} (h : (Lit.int .u8 n).wf = true) : 0 <= n ∧ n <= 255 := Tv h
theorem RG {w : World} {x : ah × List Int} (h : (bG.slice (.int .u8) 1).In w x) : ∃ l : List UInt8, Ak w x.1 l := by
  obtain ⟨⟨h1, h2, h3, h4⟩, h5⟩ := h
  have h4 : (x.2 ≠ ([] : List Int)) -> ∃ b o, x.1.a = some ⟨b, o, none⟩ ∧ b < w.heap.size ∧ ∀ i (y : Int), x.2[i]? = some y -> ([Value.int .u8 y] : List Value).length = 1 ∧ ∀ j v, ([Value.int .u8 y] : List Value)[j]? = some v -> w.cell? ⟨b, o + i * 1 + j, none⟩ = some v := h4
  have h1 : x.1.len = x.2.length := h1
  refine ⟨x.2.map fun n => UInt8.ofNat n.toNat, by simpa using h1, ?_, h2⟩
  by_cases hne : x.2 = ([] : List Int)
  · rw [hne] at h1 ⊢
    simp only [List.length_nil] at h1
    rw [h1]
    cases x.1.a with
    | none => rfl
    | some a => exact ⟨rfl, fun j hj => by simp [bytesV] at hj⟩
  · obtain ⟨b, o, ha, hb, hc⟩ := h4 hne
    rw [ha]
    refine ⟨by simp [bytesV, h1], fun j hj => ?_⟩
    simp only [bytesV, List.length_map] at hj
    have hy := List.getElem?_eq_getElem hj
    have := (hc j _ hy).2 0 _ rfl
    rw [bI]
    simp only [Nat.mul_one, Nat.add_zero] at this
    rw [this]
    have hw := wf_u8 (h5 _ (List.getElem_mem hj))
    simp only [bytesV, List.getElem?_map, hy, Option.map_some]
    congr 2
    simp
    omega
end Gp
end
section
namespace Gp
open Go
theorem CJ {α : Type} {d : bG} {n : Nat} (hn0 : 0 < n) {w : World} {x : (bG.slice d n).T} (h : (bG.slice d n).In w x) (g : d.T -> α) (f : α -> List Value) (hf : ∀ a, (f a).length = n)
    (hg : ∀ y : d.T, d.In w y -> f (g y) = d.cells y) : dQ n f w x.1 (x.2.map g) := by
  obtain ⟨⟨h1, h2, h3, h4⟩, h5⟩ := h
  refine ⟨by rw [List.length_map]; exact h1, ?_, h2⟩
  by_cases hne : x.2 = ([] : List d.T)
  · have hl : x.1.len = 0 := by rw [h1, hne]; rfl
    rw [hne, hl]
    cases x.1.a with
    | none => rfl
    | some a => exact ⟨(Nat.zero_mul n).symm, fun j hj => by simp at hj⟩
  · obtain ⟨b, o, ha, hb, hc⟩ := h4 hne
    rw [ha]
    have hfl := jy f n hf (x.2.map g)
    rw [List.length_map, <- h1] at hfl
    refine ⟨hfl, fun j hj => ?_⟩
    rw [hfl] at hj
    have hdiv : j / n < x.2.length := by
      rw [<- h1]; exact Nat.div_lt_of_lt_mul (by rw [Nat.mul_comm]; exact hj)
    have hmod := Nat.mod_lt j hn0
    have hx := List.getElem?_eq_getElem hdiv
    have hj2 : j = j / n * n + j % n := by rw [Nat.mul_comm]; exact (Nat.div_add_mod j n).symm
    have hin := h5 _ (List.getElem_mem hdiv)
    have hcc := (hc _ _ hx).2 (j % n)
    generalize x.2[j / n] = y at hx hin hcc
    rw [<- hg y hin] at hcc
    rw [hj2, flat_get f n hf _ _ _ hmod, List.getElem?_map, hx]
    have hfl2 := hf (g y)
    have hv := List.getElem?_eq_getElem (show j % n < (f (g y)).length by omega)
    simp only [Option.map_some, Option.bind_some]
    rw [hv, bI, <- Nat.add_assoc]
    exact hcc _ hv
end Gp
end
section
namespace Gp
open Go
def qy {α β : Type} (enc : α -> Value) (ev : β -> Value) (w : World) (r : Nat) (l : List (α × β)) : Prop :=
  ∃ es clock, w.heap[r]? = some (.map es clock) ∧ es.toList.map (fun e => (e.key, e.val)) = (l.map fun x => (enc x.1, ev x.2)) ∧ (es.toList.map (·.born)).Nodup ∧ ∀ e ∈ es.toList, e.born < clock
section
variable {α β : Type} {enc : α -> Value} {ev : β -> Value} {w w' : World} {r : Nat} {l : List (α × β)} {P : Program} {kt : TypeId}
theorem qy.fr {S : Nat -> Prop} (h : qy enc ev w r l) (hf : bH w w' S) (hs : ¬ S r) : qy enc ev w' r l := by
  obtain ⟨es, c, h1, h2, h3⟩ := h
  exact ⟨es, c, by rw [hf.same r (Array.getElem?_eq_some_iff.1 h1).1 hs]; exact h1, h2, h3⟩
theorem qy.ext (h : qy enc ev w r l) (hf : Ext w w') : qy enc ev w' r l := h.fr (hf fun _ => False) (by simp)
theorem qy.lt (h : qy enc ev w r l) : r < w.heap.size := by
  obtain ⟨es, c, h1, h2⟩ := h
  exact (Array.getElem?_eq_some_iff.1 h1).1
theorem qy.new (w : World) (enc : α -> Value) (ev : β -> Value) : qy enc ev (w.alloc (.map #[] 0)) w.heap.size [] := ⟨#[], 0, World.alloc_heap_new w _, rfl, by simp, by simp⟩
variable [DecidableEq α]
def Ls : List (α × β) -> α -> Option β
  | [], _ => none
  | x :: l, a => if a = x.1 then some x.2 else Ls l a
def TQ : List (α × β) -> α -> β -> List (α × β)
  | [], a, b => [(a, b)]
  | x :: l, a, b => if a = x.1 then (a, b) :: l else x :: TQ l a b
theorem E8 (hE : ∀ a b : α, uZ P 16 kt (enc a) (enc b) = some (decide (a = b))) (a : α) (b : β) : ∀ (es : List MapEntry) (l : List (α × β)) (i : Nat), es.map (fun e => (e.key, e.val)) = (l.map fun x => (enc x.1, ev x.2)) ->
    (Ls l a = none ∧ iK P kt (enc a) es i = some none ∧ TQ l a b = l ++ [(a, b)]) ∨
    ∃ j v e, Ls l a = some v ∧ iK P kt (enc a) es i = some (some (i + j, ev v)) ∧ es[j]? = some e ∧ e.key = enc a ∧
      (es.modify j fun e => { e with key := enc a, val := ev b }).map (fun e => (e.key, e.val)) = (TQ l a b).map fun x => (enc x.1, ev x.2) := by
  intro es
  induction es with
  | nil =>
    intro l i h
    cases l with
    | nil => exact .inl ⟨rfl, rfl, rfl⟩
    | cons x l => simp at h
  | cons e es ih =>
    intro l i h
    cases l with
    | nil => simp at h
    | cons x l =>
      simp only [List.map_cons, List.cons.injEq, Prod.mk.injEq] at h
      obtain ⟨⟨h1, h2⟩, h3⟩ := h
      unfold iK Ls TQ
      rw [h1, hE]
      by_cases hx : a = x.1
      · simp only [hx, decide_true, if_true]
        refine .inr ⟨0, x.2, e, rfl, by rw [h2, Nat.add_zero], rfl, h1, ?_⟩
        simp [List.modify, h3]
      · simp only [hx, decide_false, if_false]
        rcases ih l (i + 1) h3 with ⟨g1, g2, g3⟩ | ⟨j, v, e', g1, g2, g3, g4, g5⟩
        · exact .inl ⟨g1, g2, by rw [g3]; rfl⟩
        · refine .inr ⟨j + 1, v, e', g1, by rw [g2]; congr 3; omega, by simpa using g3, g4, ?_⟩
          simp only [List.modify_succ_cons, List.map_cons, g5, h1, h2]
theorem Oe {k : Kind} (h : qy enc ev w r l) (hE : ∀ a b : α, uZ P 16 kt (enc a) (enc b) = some (decide (a = b))) (a : α) (hk : jG P kt (enc a) = true) {z : Value} {K : k.T -> Prop}
    (h0 : Ls l a = none -> k.dec z K) (h1 : ∀ b, Ls l a = some b -> k.dec (ev b) K) : kL P kt k (some r) (enc a) z w K := by
  obtain ⟨es, c, g1, g2, _⟩ := h
  refine ⟨hk, .inr ⟨r, es, c, rfl, g1, ?_⟩⟩
  cases hl : Ls l a with
  | none =>
    cases l with
    | nil =>
      have : es.toList = [] := by simpa using g2
      exact ⟨none, by rw [this]; rfl, h0 hl⟩
    | cons x l' =>
      rcases E8 hE a x.2 es.toList _ 0 g2 with ⟨_, q2, _⟩ | ⟨j, v, e, q1, _⟩
      · exact ⟨_, q2, h0 hl⟩
      · rw [hl] at q1; cases q1
  | some b =>
    rcases E8 hE a b es.toList _ 0 g2 with ⟨q1, _, _⟩ | ⟨j, v, e, q1, q2, _⟩
    · rw [hl] at q1; cases q1
    · rw [hl] at q1; cases q1
      exact ⟨_, q2, h1 b hl⟩
theorem zH (es : List MapEntry) (j : Nat) (k v : Value) : (es.modify j fun e => { e with key := k, val := v }).map (·.born) = es.map (·.born) := by
  induction es generalizing j with
  | nil => simp
  | cons e es ih =>
    cases j with
    | zero => simp [List.modify]
    | succ j => rw [List.modify_succ_cons, List.map_cons, List.map_cons, ih]
theorem Oo (h : qy enc ev w r l) (hE : ∀ a b : α, uZ P 16 kt (enc a) (enc b) = some (decide (a = b))) (a : α) (b : β) (hk : jG P kt (enc a) = true) {K : World -> Prop}
    (hK : ∀ w', qy enc ev w' r (TQ l a b) -> bH w w' (· = r) -> w'.heap.size = w.heap.size -> K w') : ng P kt (some r) (enc a) (ev b) w K := by
  obtain ⟨es, c, h1, h2, h3, h4⟩ := h
  have hlt := (Array.getElem?_eq_some_iff.1 h1).1
  rcases E8 hE a b es.toList _ 0 h2 with ⟨_, q2, q3⟩ | ⟨j, v, e, q1, q2, q3, q4, q5⟩
  · refine ⟨hk, r, es, c, rfl, h1, none, q2, ?_⟩
    show K (w.putObj r (.map (es.push { key := enc a, val := ev b, born := c }) (c + 1)))
    refine hK _ ⟨es.push { key := enc a, val := ev b, born := c }, c + 1, by simp [World.putObj, Array.getElem?_setIfInBounds, hlt], ?_, ?_, ?_⟩ (bH.bZ _ _ _) (by simp [World.putObj])
    · rw [q3]
      simp [h2]
    · rw [Array.toList_push, List.map_append, List.nodup_append]
      refine ⟨h3, by simp, fun x hx y hy e => ?_⟩
      obtain ⟨e', he', rfl⟩ := List.mem_map.1 hx
      have := h4 e' he'
      simp at hy
      omega
    · intro e he
      rw [Array.toList_push] at he
      rcases List.mem_append.1 he with he | he
      · have := h4 e he; omega
      · have : e = { key := enc a, val := ev b, born := c } := by simpa using he
        rw [this]; simp
  · rw [Nat.zero_add] at q2
    refine ⟨hk, r, es, c, rfl, h1, _, q2, ⟨e, by rw [<- Array.getElem?_toList]; exact q3, q4⟩, ?_⟩
    refine hK _ ⟨_, c, by simp [World.putObj, Array.getElem?_setIfInBounds, hlt]; rfl, ?_, ?_, ?_⟩ (bH.bZ _ _ _) (by simp [World.putObj])
    · rw [Array.toList_modify]
      exact q5
    · rw [Array.toList_modify, zH]; exact h3
    · intro e' he'
      have hm : e'.born ∈ (es.toList.map (·.born)) := by
        rw [<- zH es.toList j (enc a) (ev b), <- Array.toList_modify]
        exact List.mem_map_of_mem he'
      obtain ⟨e'', he'', hb⟩ := List.mem_map.1 hm
      rw [<- hb]; exact h4 e'' he''
end
end Gp
end
section
namespace Gp
open Go
def Pq {α β : Type} (enc : α -> Value) (ev : β -> Value) (w : World) (q r : Nat) (l todo : List (α × β)) : Prop :=
  ∃ seen es clock, w.heap[q]? = some (.mapIter (some r) clock seen clock) ∧ w.heap[r]? = some (.map es clock) ∧
    es.toList.map (fun e => (e.key, e.val)) = (l.map fun x => (enc x.1, ev x.2)) ∧ (es.toList.map (·.born)).Nodup ∧ (∀ e ∈ es.toList, e.born < clock) ∧
    (leftOf es seen).toList.map (fun e => (e.key, e.val)) = todo.map fun x => (enc x.1, ev x.2)
section
variable {α β : Type} {enc : α -> Value} {ev : β -> Value} {w w' : World} {q r : Nat} {l todo : List (α × β)} {P : Program} {kt : TypeId}
theorem Pq.map (h : Pq enc ev w q r l todo) : qy enc ev w r l := by
  obtain ⟨seen, es, c, _, h2, h3, h4, h5, _⟩ := h
  exact ⟨es, c, h2, h3, h4, h5⟩
theorem Pq.fr {S : Nat -> Prop} (h : Pq enc ev w q r l todo) (hf : bH w w' S) (h1 : ¬ S q) (h2 : ¬ S r) : Pq enc ev w' q r l todo := by
  obtain ⟨seen, es, c, g1, g2, g⟩ := h
  exact ⟨seen, es, c, by rw [hf.same q (Array.getElem?_eq_some_iff.1 g1).1 h1]; exact g1, by rw [hf.same r (Array.getElem?_eq_some_iff.1 g2).1 h2]; exact g2, g⟩
theorem Pq.ext (h : Pq enc ev w q r l todo) (hf : Ext w w') : Pq enc ev w' q r l todo := h.fr (hf fun _ => False) (by simp) (by simp)
end
end Gp
namespace Gp
open Go
def Rk (w : World) (q r : Nat) : Nat :=
  match w.heap[q]?, w.heap[r]? with
  | some (.mapIter _ _ seen _), some (.map es _) => (leftOf es seen).size
  | _, _ => 0
theorem Pq.left {α β : Type} {enc : α -> Value} {ev : β -> Value} {w : World} {q r : Nat} {l todo : List (α × β)} (h : Pq enc ev w q r l todo) : Rk w q r = todo.length := by
  obtain ⟨seen, es, c, g1, g2, _, _, _, g6⟩ := h
  unfold Rk
  rw [g1, g2]
  have := congrArg List.length g6
  simpa using this
end Gp
end
section
namespace Gp
open Go
def fill : Code -> qA -> qA
  | .seq a b, an => match an with
    | .leaf => .seq (fill a .leaf) (fill b .leaf)
    | .seq x y => .seq (fill a x) (fill b y)
    | .join st x y => .join st (fill a x) (fill b y)
    | x => x
  | .cond _ a b, an => match an with
    | .leaf => .cond (fill a .leaf) (fill b .leaf)
    | .cond x y => .cond (fill a x) (fill b y)
    | x => x
  | .block _ a, an => match an with
    | .leaf => .blk (fill a .leaf)
    | .blk x => .blk (fill a x)
    | x => x
  | .loop a, an => match an with
    | .loop st x => .loop st (fill a x)
    | x => x
  | .scope a, an => fill a an
  | .rangeFunc _ _ a b, an => match an with
    | .rng ks x y => .rng ks (fill a x) (fill b y)
    | x => x
  | _, an => an
def He : (ks : List Kind) -> Dj ks -> Dj ks -> Prop
  | [], K, K' => ∀ w, K w -> K' w
  | k :: ks, K, K' => ∀ x : k.T, He ks (K x) (K' x)
theorem BA {rest : List Kind} : ∀ (ks : List Kind) {K K' : Dj (ks ++ rest)} {φ ψ : List Value -> Dj rest -> Prop}, He (ks ++ rest) K K' ->
    (∀ vs c c', He rest c c' -> φ vs c -> ψ vs c') -> Ht ks rest K φ -> Ht ks rest K' ψ
  | [], _, _, _, _, h, hp, hk => hp _ _ _ h hk
  | _ :: ks, _, _, _, _, h, hp, ⟨x, hk⟩ => ⟨x, BA ks (h x) (fun _ _ _ hc hh => hp _ _ _ hc hh) hk⟩
theorem yO : ∀ (sh : List Shape) {K K' : Dj (flat sh)} {φ : List Value -> Prop} {w : World}, He (flat sh) K K' -> Iw sh K φ w -> Iw sh K' φ w
  | [], _, _, _, _, h, hk => ⟨hk.1, h _ hk.2⟩
  | .one _ :: sh, _, _, _, _, h, ⟨x, hk⟩ => ⟨x, yO sh (h x) hk⟩
  | .agg ks :: sh, _, _, _, _, h, hk => BA ks h (fun _ _ _ hc hh => yO sh hc hh) hk
def aj (P : Program) (f : FuncId) (args : List Value) (sh : List Shape) (w : World) (K : Dj (flat sh)) : Prop :=
  Calls P f ⟨args⟩ w fun e w' => Iw sh K (fun us => e = .returned (dP us)) w'
theorem aj.mono {P : Program} {f : FuncId} {args : List Value} {sh : List Shape} {w : World} {K K' : Dj (flat sh)} (h : aj P f args sh w K) (hk : He (flat sh) K K') : aj P f args sh w K' :=
  Calls.mono h fun _ _ hh => yO sh hk hh
def Ut (P : Program) (fn : Func) (sh : List Shape) (an : qA) (args : List Value) (w : World) (K : Dj (flat sh)) : Prop :=
  match fn.body with
  | some c => cond (Nat.ble args.length fn.ntmps) (den P fn.ntmps c none (fill c an) (rJ 0 args) [] w (Ue P fn.results.toList sh K)) False
  | none => False
@[reducible] def aY (A B : Prop) : Prop := B -> A
theorem okF {P : Program} (hP : xQ P) {f : FuncId} {fn : Func} (hf : P.funcs[f]? = some fn) {args : List Value} {sh : List Shape} {w : World} {K : Dj (flat sh)} {S : Prop} (an : qA)
    (e : Ut P fn sh an args w K = S) : aY (aj P f args sh w K) S := by
  intro h
  rw [<- e] at h
  unfold Ut at h
  cases hb : fn.body with
  | none => rw [hb] at h; exact h.elim
  | some c =>
    rw [hb] at h
    dsimp only at h
    cases hl : Nat.ble args.length fn.ntmps with
    | false => rw [hl] at h; exact h.elim
    | true =>
      rw [hl] at h
      exact Ob hP hf hb rfl (rs := fn.results.toList) rfl sh K (fill c an) args hl w h
@[reducible] def Pt (p : Option Addr) (K : Addr -> Prop) : Prop := ∃ a, p = some a ∧ K a
def Tc : List Value -> World -> Addr -> Nat -> Prop -> Prop
  | [], _, _, _, R => R
  | v :: vs, w, a, i, R => w.cell? (a.add i) = some v ∧ Tc vs w a (i + 1) R
end Gp
end
section
namespace Gp
open Go
theorem tq (v : Value) (vs : List Value) (w : World) (a : Addr) (i : Nat) (R : Prop) : Tc (v :: vs) w a i R ↔ (w.cell? (a.add i) = some v ∧ Tc vs w a (i + 1) R) := Iff.rfl
theorem xB (w : World) (a : Addr) (i : Nat) (R : Prop) : Tc [] w a i R ↔ R := Iff.rfl
theorem sx : (∀ (w : World) (a : Addr) (i : Nat) (K : World -> Prop), mg [] w a i K = K w) ∧ (∀ (a : Addr), (some a).isNone = false) ∧ ((none : Option Addr).isNone = true) ∧
    (∀ (a b : Prop), cond false a b = b) ∧ (∀ (a b : Prop), cond true a b = a) ∧ (∀ (a : Addr) (P : Addr -> Prop), (∃ x, some a = some x ∧ P x) ↔ P a) ∧
    (∀ (k : Kind) (w : World) (a : Addr) (K : k.T -> Prop), Ld k w a K ↔ UU k (w.cell? a) K) ∧
    (∀ (a : Value) (l : List Value), (a :: l)[0]? = some a) ∧ (∀ (a : Value) (l : List Value) (i : Nat), (a :: l)[i + 1]? = l[i]?) ∧
    (∀ (k : Kind) (v : Value) (K : k.T -> Prop), UU k (some v) K = k.dec v K) ∧ (∀ (a : Option Addr) (l c : Nat) (K : ah -> Prop), Kind.dec .slice (.slice a l c) K = K ⟨a, l, c⟩) ∧
    (∀ (k : IntKind) (n : Int) (K : Int -> Prop), Kind.dec (.int k) (.int k n) K = K n) ∧ (∀ (b : Bool) (K : Bool -> Prop), Kind.dec .bool (.bool b) K = K b) ∧
    (∀ (a : Option Addr) (K : Option Addr -> Prop), Kind.dec .ptr (.pointer a) K = K a) ∧ (∀ (b : ByteArray) (K : ByteArray -> Prop), Kind.dec .str (.string b) K = K b) ∧
    (∀ (r : Option Nat) (K : Option Nat -> Prop), Kind.dec .map (.map r) K = K r) ∧ (∀ (v : Value) (K : Value -> Prop), Kind.dec .any v K = K v) ∧
    (∀ (a : Addr) (l c size : Nat) (i : Int) (K : Addr -> Prop), iD ⟨some a, l, c⟩ size i K ↔ (0 <= i ∧ i < (l : Int) ∧ K (a.add (i.toNat * size)))) ∧
    (∀ (b o n : Nat), (⟨b, o, none⟩ : Addr).add n = ⟨b, o + n, none⟩) ∧ (∀ n : Nat, 0 + n = n) ∧ (∀ n : Nat, n + 0 = n) :=
  ⟨PO, fun _ => rfl, rfl, fun _ _ => rfl, fun _ _ => rfl, Qv, UE, fun _ _ => rfl, fun _ _ _ => rfl, aF, bY, bn, sU, P8, Qh, QU, F7, Ep, bI, Nat.zero_add, fun _ => rfl⟩
end Gp
end
section
namespace Gp.Rn
open Go Gp
noncomputable section
inductive AV where
  | int (k : IntKind) (n : Int)
  | bool (b : Bool)
  | str (s : ByteArray)
  | ptr0
  | ptr (i o : Nat)
  | sl0
  | sl (i o len cap : Nat)
  | slo (i o len d : Nat)
  | slE (i : Nat)
  | map0
  | map (r : Nat)
  | fn (f : FuncId) (first cap : List AV)
  | yld (l : Nat)
  | agg (vs : List AV)
  | dP (vs : List AV)
  | nilF
  | nilI
  | ifc (t : TypeId) (v : AV)
inductive SV where
  | no
  | ret
  | ex (id : Nat)
inductive AB where
  | row (cs : List AV) (size : Nat) (opn : Bool)
  | map (es : List (AV × AV × Nat)) (clock : Nat)
  | iter (m : Option Nat) (since : Nat) (seen : List Nat) (c : Nat)
  | loop (st : LoopState) (p : SV)
  | mark
  | dead
inductive Tr where
  | lf
  | nd (v : Option AB) (l r : Tr)
def Tr.get : Tr -> Nat -> Option AB
  | .lf, _ => none
  | .nd v l r, n => match n with
    | 0 => v
    | m + 1 => cond (Nat.beq (m % 2) 0) (l.get (m / 2)) (r.get (m / 2))
def Tr.Fb : Nat -> Tr -> Nat -> AB -> (Tr -> Bool) -> Bool
  | 0, _, _, _, _ => false
  | f + 1, t, n, v, k => match t with
    | .lf => match n with
      | 0 => k (.nd (some v) .lf .lf)
      | m + 1 => cond (Nat.beq (m % 2) 0) (Fb f .lf (m / 2) v fun l => k (.nd none l .lf)) (Fb f .lf (m / 2) v fun r => k (.nd none .lf r))
    | .nd x l r => match n with
      | 0 => k (.nd (some v) l r)
      | m + 1 => cond (Nat.beq (m % 2) 0) (Fb f l (m / 2) v fun l' => k (.nd x l' r)) (Fb f r (m / 2) v fun r' => k (.nd x l r'))
structure St where
  h : Tr
  n : Nat
abbrev AE := List (Nat × AV)
def AE.get (e : AE) (t : Nat) : Option AV := List.rec (motive := fun _ => Option AV) none (fun p _ ih => Bool.rec ih (some p.2) (Nat.beq p.1 t)) e
def AE.put (e : AE) (d : Option Nat) (v : AV) : AE :=
  match d with
  | some s => (s, v) :: e
  | none => e
def AE.without (ws : List Nat) : AE -> AE
  | [] => []
  | (s, v) :: r => cond (kY s ws) (AE.without ws r) ((s, v) :: AE.without ws r)
def fN (n : Nat) (k : Nat -> Bool) : Bool := match n with
  | 0 => k 0
  | m + 1 => k (Nat.succ m)
def fI (n : Int) (k : Int -> Bool) : Bool := match n with
  | .ofNat a => fN a fun a => k (.ofNat a)
  | .negSucc a => fN a fun a => k (.negSucc a)
def fB (b : Bool) (k : Bool -> Bool) : Bool := match b with
  | true => k true
  | false => k false
def G5 : Value -> Option AV
  | .int k n => some (.int k n)
  | .bool b => some (.bool b)
  | .string s => some (.str s)
  | .pointer none => some .ptr0
  | .slice none 0 0 => some .sl0
  | .map none => some .map0
  | .nilFunc => some .nilF
  | .nilIface => some .nilI
  | _ => none
def o7 : List Value -> Option (List AV)
  | [] => some []
  | v :: r => match G5 v, o7 r with
    | some a, some l => some (a :: l)
    | _, _ => none
def sD : Value -> Option AV
  | .agg cs => match o7 cs.toList with
    | some l => some (.agg l)
    | none => none
  | .tuple vs => match vs.toList with
    | [] => some (.dP [])
    | _ => none
  | v => G5 v
def one : AV -> Bool
  | .agg _ => false
  | .dP _ => false
  | _ => true
def QE : Kind -> AV -> Bool
  | .int k, .int k' _ => qK k k'
  | .bool, .bool _ => true
  | .str, .str _ => true
  | .ptr, .ptr0 => true
  | .ptr, .ptr _ _ => true
  | .slice, .sl0 => true
  | .slice, .sl _ _ _ _ => true
  | .slice, .slo _ _ _ _ => true
  | .slice, .slE _ => true
  | .map, .map0 => true
  | .map, .map _ => true
  | .any, _ => true
  | _, _ => false
def Bh : List Kind -> List AV -> Bool
  | [], [] => true
  | k :: ks, v :: vs => QE k v && Bh ks vs
  | _, _ => false
def Si : Shape -> AV -> Bool
  | .one k, v => QE k v
  | .agg ks, .agg vs => Bh ks vs
  | _, _ => false
def wu : List Shape -> List AV -> Bool
  | [], [] => true
  | k :: ks, v :: vs => Si k v && wu ks vs
  | _, _ => false
def Q5 (e : AE) : Operand -> Option AV
  | .tmp t => e.get t
  | .const v => sD v
  | .global _ => none
  | .func f => some (.fn f [] [])
def evs (e : AE) : List Operand -> Option (List AV)
  | [] => some []
  | x :: r => match Q5 e x, evs e r with
    | some a, some l => some (a :: l)
    | _, _ => none
def yT : List AV -> Option (List Value)
  | [] => some []
  | v :: r => match (match v with
    | .int k n => some (Value.int k n)
    | .bool b => some (.bool b)
    | .str s => some (.string s)
    | _ => none), yT r with
    | some a, some l => some (a :: l)
    | _, _ => none
def FT : AV -> Option Value
  | .int k n => some (.int k n)
  | .bool b => some (.bool b)
  | .str s => some (.string s)
  | .agg vs => match yT vs with
    | some l => some (.agg ⟨l⟩)
    | none => none
  | _ => none
def U6 : List UInt8 -> List UInt8 -> Bool
  | [], [] => true
  | a :: l, b :: m => cond (Nat.beq a.toNat b.toNat) (U6 l m) false
  | _, _ => false
def UZ : List UInt8 -> List UInt8 -> Bool
  | [], [] => false
  | [], _ :: _ => true
  | _ :: _, [] => false
  | a :: l, b :: m => cond (Nat.blt a.toNat b.toNat) true (cond (Nat.beq a.toNat b.toNat) (UZ l m) false)
def Qg (a b : ByteArray) : Bool := U6 a.data.toList b.data.toList
def TK (a b : ByteArray) : Bool := UZ a.data.toList b.data.toList
def EX (P : Program) : Nat -> TypeId -> Value -> Value -> Option Bool
  | 0, _, _, _ => none
  | d + 1, t, x, y => match P.underlying t, x, y with
    | some .bool, .bool a, .bool b => some (a == b)
    | some (.int _), .int k a, .int k' b => cond (qK k k') (some (a == b)) none
    | some .string, .string a, .string b => some (Qg a b)
    | some (.struct fs), .agg xs, .agg ys => cond (P.stoodInHeld t) none (L8 P (EX P d) xs.toList ys.toList fs.toList)
    | some (.array n e), .agg xs, .agg ys => match P.underlying e, aC P e with
      | some de, some size => Lr (EX P d e) de size xs.toList ys.toList n 0
      | _, _ => none
    | _, _, _ => none
def qN (s : St) (b : AB) (k : Nat -> St -> Bool) : Bool :=
  match s.h.get s.n with
  | none => s.h.Fb 64 s.n b fun h' => fN (s.n + 1) fun m => k s.n ⟨h', m⟩
  | some _ => false
def pF (s : St) (i : Nat) (b : AB) (k : St -> Bool) : Bool := s.h.Fb 64 i b fun h' => k ⟨h', s.n⟩
def JV {α : Type} : Nat -> List α -> Option (List α)
  | 0, _ => some []
  | _ + 1, [] => none
  | n + 1, x :: l => match JV n l with
    | some r => some (x :: r)
    | none => none
def Og (s : St) (i o n : Nat) : Option (List AV) :=
  match s.h.get i with
  | some (.row cs _ _) => JV n (cs.drop o)
  | _ => none
def GU : List AV -> Nat -> List AV -> (List AV -> Bool) -> Bool
  | [], _, vs, k => match vs with
    | [] => k []
    | _ => false
  | c :: cs, n, vs, k => match n with
    | m + 1 => GU cs m vs fun r => k (c :: r)
    | 0 => match vs with
      | [] => k (c :: cs)
      | v :: vs => GU cs 0 vs fun r => k (v :: r)
def oZ : List AV -> Bool
  | [] => true
  | v :: r => one v && oZ r
def MP (s : St) (i o : Nat) (vs : List AV) (k : St -> Bool) : Bool :=
  cond (oZ vs) (match s.h.get i with
    | some (.row cs z p) => GU cs o vs fun cs' => pF s i (.row cs' z p) k
    | _ => false) false
def Uh (s : St) (size n : Nat) : AV -> Option (List AV)
  | .sl0 => cond (Nat.beq n 0) (some []) none
  | .sl i o len _ => cond (Nat.ble n len) (Og s i o (n * size)) none
  | .slo i o len _ => cond (Nat.ble n len) (Og s i o (n * size)) none
  | .slE _ => cond (Nat.beq n 0) (some []) none
  | _ => none
def Bq : AV -> Option Nat
  | .sl0 => some 0
  | .sl _ _ n _ => some n
  | .slo _ _ n _ => some n
  | .slE _ => some 0
  | _ => none
def Gq (z : List AV) : Nat -> List AV
  | 0 => []
  | n + 1 => z ++ Gq z n
def FB (size bytes zl : Nat) (x : AV) (n : Nat) (vs : List AV) (s : St) (k : AV -> St -> Bool) : Bool :=
  cond (oZ vs && (Nat.beq zl size && (Nat.beq vs.length (n * size) && Nat.blt 0 size))) (match x with
    | .sl0 => match n with
      | 0 => k .sl0 s
      | _ + 1 => cond (Nat.ble (n * bytes) (2 ^ 46) && Nat.ble n (2 ^ 62)) (qN s (.row vs size true) fun j s' => k (.slo j 0 n 0) s') false
    | .sl i o len cap => fN (len + n) fun m => cond (Nat.ble m cap) (MP s i (o + len * size) vs fun s' => k (.sl i o m cap) s')
        (cond (Nat.ble (m * bytes) (2 ^ 46) && Nat.ble m (2 ^ 62)) (match Og s i o (len * size) with
          | some old => qN s (.row (old ++ vs) size true) fun j s' => k (.slo j 0 m 0) s'
          | none => false) false)
    | .slo i o len d => fN (len + n) fun m => match s.h.get i with
      | some (.row cs z true) => cond (Nat.beq z size && Nat.beq (d * size) o)
          (cond (Nat.ble (o + m * size) cs.length) (MP s i (o + len * size) vs fun s' => k (.slo i o m d) s')
            (cond (Nat.beq o 0 && (Nat.beq d 0 && (Nat.beq (len * size) cs.length && (Nat.ble (m * bytes) (2 ^ 46) && Nat.ble m (2 ^ 62)))))
              (pF s i .dead fun s1 => qN s1 (.row (cs ++ vs) size true) fun j s' => k (.slo j 0 m 0) s') false)) false
      | _ => false
    | _ => false) false
end
end Gp.Rn
end
section
namespace Gp.Rn
open Go Gp
noncomputable section
structure Cb where
  call : FuncId -> List AV -> St -> (List AV -> St -> Bool) -> Bool
  yld : Nat -> List AV -> St -> (Bool -> St -> Bool) -> Bool
def OC (op : BinOp) (kd : IntKind) (a b : Int) (k : AV -> Bool) : Bool :=
  match op with
  | .add => fI (kd.wrap (a + b)) fun n => k (.int kd n)
  | .sub => fI (kd.wrap (a - b)) fun n => k (.int kd n)
  | .mul => fI (kd.wrap (a * b)) fun n => k (.int kd n)
  | .quo => cond (b == 0) false (fI (kd.wrap (a.tdiv b)) fun n => k (.int kd n))
  | .rem => cond (b == 0) false (fI (a.tmod b) fun n => k (.int kd n))
  | .and => fI (TU kd a b) fun n => k (.int kd n)
  | .or => fI (U9 kd a b) fun n => k (.int kd n)
  | .xor => fI (Qc kd a b) fun n => k (.int kd n)
  | .andNot => fI (JJ kd a b) fun n => k (.int kd n)
  | .eql => fB (a == b) fun t => k (.bool t)
  | .neq => fB (a != b) fun t => k (.bool t)
  | .lss => fB (decide (a < b)) fun t => k (.bool t)
  | .leq => fB (decide (a <= b)) fun t => k (.bool t)
  | .gtr => fB (decide (a > b)) fun t => k (.bool t)
  | .geq => fB (decide (a >= b)) fun t => k (.bool t)
  | _ => false
def NS (op : BinOp) (a b : ByteArray) (k : AV -> Bool) : Bool :=
  match op with
  | .add => cond (Nat.ble (a.size + b.size) 9223372036854775807) (k (.str ⟨⟨a.data.toList ++ b.data.toList⟩⟩)) false
  | .eql => fB (Qg a b) fun t => k (.bool t)
  | .neq => fB (!Qg a b) fun t => k (.bool t)
  | .lss => fB (TK a b) fun t => k (.bool t)
  | .leq => fB (TK a b || Qg a b) fun t => k (.bool t)
  | .gtr => fB (!(TK a b || Qg a b)) fun t => k (.bool t)
  | .geq => fB (!TK a b) fun t => k (.bool t)
  | _ => false
def Vb (d : TypeDesc) (x y : AV) : Option Bool :=
  match d, x, y with
  | .bool, .bool a, .bool b => some (a == b)
  | .pointer _, .ptr0, .ptr0 => some true
  | .pointer _, .ptr _ _, .ptr0 => some false
  | .slice _, .sl0, .sl0 => some true
  | .slice _, .sl _ _ _ _, .sl0 => some false
  | .slice _, .slo _ _ _ _, .sl0 => some false
  | .slice _, .slE _, .sl0 => some false
  | .map _ _, .map0, .map0 => some true
  | .map _ _, .map _, .map0 => some false
  | _, _, _ => none
def OO (P : Program) (op : BinOp) (t : TypeId) (x y : AV) (k : AV -> Bool) : Bool :=
  match x with
  | .int kd a => match y with
    | .int kd' b => match op with
      | .shl => cond (decide (0 <= b)) (fI (Qk kd a b) fun n => k (.int kd n)) false
      | .shr => cond (decide (0 <= b)) (fI (iC kd a b) fun n => k (.int kd n)) false
      | op => cond (qK kd kd') (OC op kd a b k) false
    | _ => false
  | .str a => match y with
    | .str b => NS op a b k
    | _ => false
  | .agg xs => match m_ op, yT xs, y with
    | some s, some xs', .agg ys => match yT ys with
      | some ys' => cond (P.eqGuardType P.depth t) false (match EX P 16 t (.agg ⟨xs'⟩) (.agg ⟨ys'⟩) with
        | some b => fB (cond s b (!b)) fun b => k (.bool b)
        | none => false)
      | none => false
    | _, _, _ => false
  | x => match m_ op, P.underlying t with
    | some s, some d => match Vb d x y with
      | some b => fB (cond s b (!b)) fun b => k (.bool b)
      | none => false
    | _, _ => false
def TY (op : UnOp) (x : AV) (k : AV -> Bool) : Bool :=
  match op, x with
  | .neg, .int kd n => fI (kd.wrap (0 - n)) fun n => k (.int kd n)
  | .not, .bool b => fB (!b) fun b => k (.bool b)
  | .xor, .int kd n => fI (Qc kd (if kd.signed then -1 else kd.max) n) fun n => k (.int kd n)
  | _, _ => false
def yL (ρ : Operand -> AV) (x : Option Operand) (d : Int) (k : Int -> Bool) : Bool :=
  match x with
  | none => k d
  | some o => match ρ o with
    | .int _ n => k n
    | _ => false
def Pe (x : AV) (size : Nat) (l h : Int) (s : St) (k : AV -> Bool) : Bool :=
  cond (decide (0 <= l) && decide (l <= h)) (match x with
    | .sl0 => cond (decide (h <= 0)) (k .sl0) false
    | .sl i o _ cap => cond (decide (h <= (cap : Int))) (fN (cond (Nat.beq cap l.toNat) o (o + l.toNat * size)) fun o' => fN (h.toNat - l.toNat) fun n' => fN (cap - l.toNat) fun c' => k (.sl i o' n' c')) false
    | .slE i => cond (decide (h <= 0)) (k (.slE i)) false
    | .slo i o _ d => match s.h.get i with
      | some (.row cs z true) => cond (Nat.beq z size && (Nat.beq (d * size) o && Nat.ble (o + h.toNat * size) cs.length))
          (match l.toNat with
            | 0 => fN h.toNat fun n' => k (.slo i o n' d)
            | m + 1 => cond (Nat.blt (o + (m + 1) * size) cs.length) (fN (o + (m + 1) * size) fun o' => fN (h.toNat - (m + 1)) fun n' => fN (d + (m + 1)) fun d' => k (.slo i o' n' d'))
              (cond (Nat.beq (h.toNat - (m + 1)) 0) (k (.slE i)) false)) false
      | _ => false
    | _ => false) false
def GI (x : AV) (size : Nat) (l h m : Int) (s : St) (k : AV -> Bool) : Bool :=
  cond (decide (0 <= l) && (decide (l <= h) && decide (h <= m))) (match x with
    | .sl0 => cond (decide (m <= 0)) (k .sl0) false
    | .sl i o _ cap => cond (decide (m <= (cap : Int))) (fN (cond (Nat.beq m.toNat l.toNat) o (o + l.toNat * size)) fun o' => fN (h.toNat - l.toNat) fun n' => fN (m.toNat - l.toNat) fun c' => k (.sl i o' n' c')) false
    | .slo i o _ d => match s.h.get i with
      | some (.row cs z true) => cond (Nat.beq z size && (Nat.beq (d * size) o && Nat.ble (o + m.toNat * size) cs.length))
          (fN (cond (Nat.beq m.toNat l.toNat) o (o + l.toNat * size)) fun o' => fN (h.toNat - l.toNat) fun n' => fN (m.toNat - l.toNat) fun c' => k (.sl i o' n' c')) false
      | _ => false
    | _ => false) false
def AX (P : Program) (t : TypeId) (x : AV) (ρ : Operand -> AV) (lo hi mx : Option Operand) (s : St) (k : AV -> Bool) : Bool :=
  match P.underlying t with
  | some .string => match x, mx with
    | .str b, none => yL ρ lo 0 fun l => yL ρ hi (b.size : Int) fun h => cond (decide (0 <= l) && (decide (l <= h) && decide (h <= (b.size : Int)))) (k (.str ⟨⟨(b.data.toList.take h.toNat).drop l.toNat⟩⟩)) false
    | _, _ => false
  | some (.slice e) => match aC P e, Bq x with
    | some size, some n => cond (Nat.blt 0 size) (match mx with
      | none => yL ρ lo 0 fun l => yL ρ hi (n : Int) fun h => Pe x size l h s k
      | some m => match hi with
        | some _ => yL ρ lo 0 fun l => yL ρ hi 0 fun h => yL ρ (some m) 0 fun m' => GI x size l h m' s k
        | none => false) false
    | _, _ => false
  | some (.array n e) => match x, aC P e, mx with
    | .ptr i o, some size, none => yL ρ lo 0 fun l => yL ρ hi (n : Int) fun h => cond (decide (0 <= l) && (decide (l <= h) && decide (h <= (n : Int))))
        (fN (cond (Nat.beq n l.toNat) o (o + l.toNat * size)) fun o' => fN (h.toNat - l.toNat) fun n' => fN (n - l.toNat) fun c' => k (.sl i o' n' c')) false
    | _, _, _ => false
  | _ => false
def UO : List AV -> Option (List UInt8)
  | [] => some []
  | .int .u8 (.ofNat n) :: r => cond (Nat.blt n 256) (match UO r with
    | some l => some (UInt8.ofNat n :: l)
    | none => none) none
  | _ => none
def U7 (l : List UInt8) : List AV := l.map fun b => .int .u8 (.ofNat b.toNat)
def G7 (P : Program) (sd d : TypeId) (x : AV) (s : St) (k : AV -> St -> Bool) : Bool :=
  match P.underlying sd, P.underlying d with
  | some (.slice e), some .string => match P.underlying e, Bq x with
    | some (.int .u8), some n => match Uh s 1 n x with
      | some cs => match UO cs with
        | some l => k (.str ⟨⟨l⟩⟩) s
        | none => false
      | none => false
    | _, _ => false
  | some .string, some (.slice e) => match P.underlying e, x with
    | some (.int .u8), .str b => cond (Nat.ble b.size (2 ^ 62)) (qN s (.row (U7 b.data.toList) 1 true) fun i s' => k (.slo i 0 b.size 0) s') false
    | _, _ => false
  | some (.slice _), some (.slice e) => match P.underlying e, Nat.beq sd d, x with
    | some (.int .u8), true, .sl i _ _ _ => match s.h.get i with
      | some (.row _ _ _) => k x s
      | _ => false
    | _, _, _ => false
  | some _, some (.int kd) => match x with
    | .int _ n => fI (kd.wrap n) fun n => k (.int kd n) s
    | _ => false
  | some _, some .string => match x with
    | .str b => k (.str b) s
    | _ => false
  | _, _ => false
def Es (d : TypeDesc) (size off : Nat) (cs : List AV) (k : AV -> Bool) : Bool :=
  cond (qc d) (k (.agg ((cs.drop off).take size))) (match cs[off]? with
    | some v => k v
    | none => false)
def cellsA : AV -> List AV
  | .agg cs => cs
  | v => [v]
def JK (cs : List AV) (off : Nat) (vs : List AV) : List AV := cs.take off ++ (vs ++ cs.drop (off + vs.length))
def zu (place : Nat -> Option (Nat × Nat)) : List (Nat × AV) -> List AV -> Option (List AV)
  | [], cs => some cs
  | (i, v) :: r, cs => match place i with
    | some (off, size) => cond (Nat.beq (cellsA v).length size && Nat.ble (off + size) cs.length) (zu place r (JK cs off (cellsA v))) none
    | none => none
def Fg : List (Nat × AV) -> List AV -> Option (List AV)
  | [], cs => some cs
  | (i, v) :: r, cs => cond (Nat.blt i cs.length) (Fg r (cs.set i v)) none
def pW (P : Program) (e : TypeId) : Option (List AV) :=
  match dn P e with
  | some z => o7 z
  | none => none
def BQ (P : Program) (kt : TypeId) (key : Value) : List (AV × AV × Nat) -> Nat -> Option (Option (Nat × AV × AV))
  | [], _ => some none
  | (q, v, _) :: es, i => match FT q with
    | some q' => match EX P 16 kt key q' with
      | some true => some (some (i, q, v))
      | some false => BQ P kt key es (i + 1)
      | none => none
    | none => none
def Lj (P : Program) (kt : TypeId) (key : AV) : Option Value :=
  match FT key with
  | some v => cond (xW v && (EX P 16 kt v v).isSome) (some v) none
  | none => none
def OE (s : St) (m : AV) : Option (List (AV × AV × Nat) × Nat) :=
  match m with
  | .map r => match s.h.get r with
    | some (.map es c) => some (es, c)
    | _ => none
  | _ => none
def MG (P : Program) (kt : TypeId) (m key : AV) (z : AV) (s : St) (k : AV -> Bool -> Bool) : Bool :=
  match Lj P kt key with
  | some kv => match m with
    | .map0 => k z false
    | m => match OE s m with
      | some (es, _) => match BQ P kt kv es 0 with
        | some (some (_, _, v)) => k v true
        | some none => k z false
        | none => false
      | none => false
  | none => false
mutual
def qh : AV -> AV -> Bool
  | .int k n, .int k' n' => qK k k' && n == n'
  | .bool a, .bool b => a == b
  | .str a, .str b => Qg a b
  | .ptr0, .ptr0 => true
  | .ptr i o, .ptr i' o' => Nat.beq i i' && Nat.beq o o'
  | .sl0, .sl0 => true
  | .sl i o l c, .sl i' o' l' c' => Nat.beq i i' && (Nat.beq o o' && (Nat.beq l l' && Nat.beq c c'))
  | .slo i o l c, .slo i' o' l' c' => Nat.beq i i' && (Nat.beq o o' && (Nat.beq l l' && Nat.beq c c'))
  | .map0, .map0 => true
  | .map r, .map r' => Nat.beq r r'
  | .fn f a b, .fn f' a' b' => Nat.beq f f' && (sW a a' && sW b b')
  | .yld l, .yld l' => Nat.beq l l'
  | .agg a, .agg b => sW a b
  | .dP a, .dP b => sW a b
  | .nilF, .nilF => true
  | .nilI, .nilI => true
  | .ifc t v, .ifc t' v' => Nat.beq t t' && qh v v'
  | _, _ => false
def sW : List AV -> List AV -> Bool
  | [], [] => true
  | a :: l, b :: m => qh a b && sW l m
  | _, _ => false
end
def Nk (P : Program) (kt : TypeId) (m key val : AV) (s : St) (k : St -> Bool) : Bool :=
  match Lj P kt key with
  | some kv => match m with
    | .map r => match s.h.get r with
      | some (.map es c) => match BQ P kt kv es 0 with
        | some (some (i, q, _)) => cond (qh q key) (match es[i]? with
          | some (_, _, b) => pF s r (.map (es.set i (key, val, b)) c) k
          | none => false) false
        | some none => pF s r (.map (es ++ [(key, val, c)]) (c + 1)) k
        | none => false
      | _ => false
    | _ => false
  | none => false
def MX (P : Program) (kt : TypeId) (m key : AV) (s : St) (k : St -> Bool) : Bool :=
  match Lj P kt key with
  | some kv => match m with
    | .map0 => k s
    | .map r => match s.h.get r with
      | some (.map es c) => match BQ P kt kv es 0 with
        | some (some (i, _, _)) => pF s r (.map (es.eraseIdx i) c) k
        | some none => k s
        | none => false
      | _ => false
    | _ => false
  | none => false
def Ul (b : Nat) : List Nat -> Bool
  | [] => false
  | x :: r => cond (Nat.beq x b) true (Ul b r)
def Gy (since : Nat) (seen : List Nat) : List (AV × AV × Nat) -> List (AV × AV × Nat)
  | [] => []
  | e :: es => cond (Ul e.2.2 seen) (Gy since seen es) (e :: Gy since seen es)
def wJ (n : Nat) : List (AV × AV × Nat) -> Bool
  | [] => true
  | e :: es => Nat.blt e.2.2 n && wJ n es
def Gm (q : AV) (s : St) (k : AV -> St -> Bool) : Bool :=
  match q with
  | .ptr i 0 => match s.h.get i with
    | some (.iter none _ _ _) => k (.dP [.bool false]) s
    | some (.iter (some m) since seen _) => match s.h.get m with
      | some (.map es c) => cond (wJ since es && Nat.ble since c) (match Gy since seen es with
          | [] => k (.dP [.bool false]) s
          | [(a, b, n)] => pF s i (.iter (some m) since (seen ++ [n]) c) fun s' => k (.dP [.bool true, a, b]) s'
          | _ => false) false
      | _ => false
    | _ => false
  | _ => false
def yM (n : Nat) : List (AV × AV × Nat) -> Option (AV × AV)
  | [] => none
  | e :: es => cond (Nat.beq e.2.2 n) (some (e.1, e.2.1)) (yM n es)
def FM : List (AV × AV × Nat) -> Bool
  | [] => true
  | e :: es => (match yM e.2.2 es with
    | none => true
    | some _ => false) && FM es
def OT : List Nat -> Option Nat
  | [] => none
  | [x] => some x
  | _ :: r => OT r
def B_ (q : AV) (s : St) (k : AV -> Bool) : Bool :=
  match q with
  | .ptr i 0 => match s.h.get i with
    | some (.iter (some m) _ seen c) => match s.h.get m, OT seen with
      | some (.map es c'), some n => cond (FM es && Nat.beq c c') (match yM n es with
        | some (a, b) => k (.dP [a, b])
        | none => false) false
      | _, _ => false
    | _ => false
  | _ => false
def CZ (mx : Bool) : Int -> List AV -> IntKind -> (AV -> Bool) -> Bool
  | x, [], k, f => fI x fun x => f (.int k x)
  | x, .int _ y :: r, k, f => CZ mx (cond mx (cond (decide (y > x)) y x) (cond (decide (y < x)) y x)) r k f
  | _, _ :: _, _, _ => false
def TW (P : Program) (b : Builtin) (ts : List TypeId) (args : List AV) (s : St) (k : AV -> St -> Bool) : Bool :=
  match b with
  | .len => match ts, args with
    | [t], [x] => match P.underlying t, x with
      | some .string, .str b => fN b.size fun n => k (.int .i64 (.ofNat n)) s
      | some (.array n _), _ => k (.int .i64 (.ofNat n)) s
      | some (.slice _), x => match Bq x with
        | some n => k (.int .i64 (.ofNat n)) s
        | none => false
      | some (.map _ _), .map0 => k (.int .i64 (.ofNat 0)) s
      | some (.map _ _), .map r => match s.h.get r with
        | some (.map es _) => fN es.length fun n => k (.int .i64 (.ofNat n)) s
        | _ => false
      | _, _ => false
    | _, _ => false
  | .cap => match ts, args with
    | [t], [x] => match P.underlying t, x with
      | some (.slice _), .sl0 => k (.int .i64 (.ofNat 0)) s
      | some (.slice _), .sl _ _ _ c => k (.int .i64 (.ofNat c)) s
      | _, _ => false
    | _, _ => false
  | .max => match args with
    | .int kd x :: r => CZ true x r kd fun v => k v s
    | _ => false
  | .min => match args with
    | .int kd x :: r => CZ false x r kd fun v => k v s
    | _ => false
  | .append => match ts, args with
    | [t, t'], [x, y] => match P.underlying t, P.underlying t' with
      | some (.slice e), some d => match aC P e, qJ P e, dn P e with
        | some size, some bytes, some z => match d with
          | .slice _ => match Bq y with
            | some n => match Uh s size n y with
              | some vs => FB size bytes z.length x n vs s k
              | none => false
            | none => false
          | .string => match y with
            | .str b => FB size bytes z.length x b.size (U7 b.data.toList) s k
            | _ => false
          | .int _ => match y, o7 z with
            | .int _ (.ofNat n), some za => cond (Nat.beq z.length size && (Nat.ble (n * bytes) (2 ^ 46) && Nat.ble n (2 ^ 62))) (FB size bytes z.length x n (Gq za n) s k) false
            | _, _ => false
          | _ => false
        | _, _, _ => false
      | _, _ => false
    | _, _ => false
  | .copy => match ts, args with
    | [t, _], [x, y] => match P.underlying t with
      | some (.slice e) => match aC P e, Bq x, Bq y with
        | some size, some n, some m => match Uh s size (Nat.min m n) y with
          | some vs => match x with
            | .sl i o _ _ => MP s i o vs fun s' => k (.int .i64 (.ofNat (Nat.min m n))) s'
            | .slo i o _ _ => MP s i o vs fun s' => k (.int .i64 (.ofNat (Nat.min m n))) s'
            | .sl0 => k (.int .i64 (.ofNat 0)) s
            | _ => false
          | none => false
        | _, _, _ => false
      | _ => false
    | _, _ => false
  | .clear => match ts, args with
    | [t], [x] => match P.underlying t with
      | some (.slice e) => match aC P e, pW P e, x with
        | some size, some z, .sl i o n _ => cond (Nat.beq z.length size) (MP s i o (Gq z n) fun s' => k (.dP []) s') false
        | some size, some z, .slo i o n _ => cond (Nat.beq z.length size) (MP s i o (Gq z n) fun s' => k (.dP []) s') false
        | some size, some z, .sl0 => cond (Nat.beq z.length size) (k (.dP []) s) false
        | _, _, _ => false
      | _ => false
    | _, _ => false
  | .delete => match ts, args with
    | [t, _], [m, key] => match P.underlying t with
      | some (.map kt _) => MX P kt m key s fun s' => k (.dP []) s'
      | _ => false
    | _, _ => false
  | _ => false
def RZ : List AV -> AV
  | [v] => v
  | vs => .dP vs
section
variable (P : Program)
def JR (c a b : AV) (s : St) (k : AV -> St -> Bool) : Bool :=
  match c with
  | .bool t => cond t (k a s) (k b s)
  | _ => false
def EZ (e : TypeId) (s : St) (k : AV -> St -> Bool) : Bool :=
  match pW P e with
  | some z => qN s (.row z 1 false) fun i s' => k (.ptr i 0) s'
  | none => false
def P5 (e : TypeId) (x : AV) (s : St) (k : AV -> St -> Bool) : Bool :=
  match shapeOf P e with
  | some (.one _) => cond (one x) (qN s (.row [x] 1 false) fun i s' => k (.ptr i 0) s') false
  | some (.agg _) => match x with
    | .agg cs => qN s (.row cs 1 false) fun i s' => k (.ptr i 0) s'
    | _ => false
  | none => false
def EK (t : TypeId) (ps : List (Nat × AV)) (k : AV -> Bool) : Bool :=
  match pW P t, P.underlying t with
  | some z, some (.struct fs) => match placesOf P fs.toList with
    | some pl => match zu (fun i => pl[i]?) ps z with
      | some cs => k (.agg cs)
      | none => false
    | none => false
  | some z, some (.array _ e) => match aC P e with
    | some size => match zu (fun i => some (i * size, size)) ps z with
      | some cs => k (.agg cs)
      | none => false
    | none => false
  | _, _ => false
def AL (t : TypeId) (n : Nat) (ps : List (Nat × AV)) (s : St) (k : AV -> St -> Bool) : Bool :=
  match P.underlying t with
  | some (.slice e) => match aC P e, pW P e with
    | some size, some z => cond (Nat.ble (n * size) 4096 && Nat.beq z.length size)
      (cond (D6 (shapeOf P e)) (cond (Nat.beq size 1 && oZ (ps.map fun p => p.2)) (match Fg ps (Gq z n) with
       | some cs => qN s (.row cs size false) fun i s' => k (.sl i 0 n n) s'
       | none => false) false)
       (match zu (fun i => some (i * size, size)) ps (Gq z n) with
       | some cs => qN s (.row cs size false) fun i s' => k (.sl i 0 n n) s'
       | none => false)) false
    | _, _ => false
  | _ => false
def U0 (t : TypeId) (x : AV) (s : St) (k : AV -> St -> Bool) : Bool :=
  match x, shapeOf P t, aC P t with
  | .ptr i a, some (.one kd), some n => cond (Nat.beq 1 n) (match Og s i a 1 with
    | some [v] => cond (QE kd v) (k v s) false
    | _ => false) false
  | .ptr i a, some (.agg ks), some n => cond (Nat.beq ks.length n) (match Og s i a n with
    | some vs => cond (Bh ks vs) (k (.agg vs) s) false
    | none => false) false
  | _, _, _ => false
def U3 (t : TypeId) (x y : AV) (s : St) (k : AV -> St -> Bool) : Bool :=
  match x, shapeOf P t, aC P t with
  | .ptr i a, some (.one _), some n => cond (Nat.beq n 1) (MP s i a [y] fun s' => k (.dP []) s') false
  | .ptr i a, some (.agg _), some n => match y with
    | .agg cs => cond (Nat.beq cs.length n) (MP s i a cs fun s' => k (.dP []) s') false
    | _ => false
  | _, _, _ => false
def Vd (x : AV) (k : AV -> Bool) : Bool :=
  match x with
  | .ptr i a => k (.ptr i a)
  | _ => false
def RF (fn : Fn) (first cap : List AV) (k : AV -> Bool) : Bool :=
  match fn with
  | .func f => k (.fn f first cap)
  | _ => false
def JZ (t : TypeId) (m key : AV) (c : Bool) (s : St) (k : AV -> St -> Bool) : Bool :=
  match P.underlying t with
  | some (.map kt et) => match shapeOf P et, iQ P et with
    | some sh, some z => match sD z with
      | some za => MG P kt m key za s fun v b => cond (Si sh v) (cond c (k (.dP [v, .bool b]) s) (k v s)) false
      | none => false
    | _, _ => false
  | _ => false
def Ry (t : TypeId) (m key v : AV) (s : St) (k : AV -> St -> Bool) : Bool :=
  match P.underlying t with
  | some (.map kt _) => Nk P kt m key v s fun s' => k (.dP []) s'
  | _ => false
def JQ (t : TypeId) (m key : AV) (s : St) (k : AV -> St -> Bool) : Bool :=
  match P.underlying t with
  | some (.map kt et) => match iQ P et with
    | some z => match sD z, Lj P kt key, m with
      | some za, some kv, .map r => match s.h.get r with
        | some (.map es c) => match BQ P kt kv es 0 with
          | some (some (i, q, v)) => cond (qh q key) (match es[i]? with
            | some (_, v', b) => pF s r (.map (es.set i (key, v', b)) c) fun s' => k (.dP [v', .int .i64 (.ofNat b)]) s'
            | none => false) false
          | some none => pF s r (.map (es ++ [(key, za, c)]) (c + 1)) fun s' => k (.dP [za, .int .i64 (.ofNat c)]) s'
          | none => false
        | _ => false
      | _, _, _ => false
    | none => false
  | _ => false
def PX (n : Nat) : List (AV × AV × Nat) -> Option Nat
  | [] => none
  | e :: es => cond (Nat.beq e.2.2 n) (some 0) (match PX n es with
    | some i => some (i + 1)
    | none => none)
def Qj (m st v : AV) (s : St) (k : AV -> St -> Bool) : Bool :=
  match m, st with
  | .map r, .int _ (.ofNat n) => match s.h.get r with
    | some (.map es c) => match PX n es with
      | some i => match es[i]? with
        | some (q, _, b) => pF s r (.map (es.set i (q, v, b)) c) fun s' => k (.dP []) s'
        | none => false
      | none => false
    | _ => false
  | _, _ => false
def SI (s : St) (k : AV -> St -> Bool) : Bool := qN s (.map [] 0) fun i s' => k (.map i) s'
def Tf (t : TypeId) (l c : AV) (s : St) (k : AV -> St -> Bool) : Bool :=
  match P.underlying t, l, c with
  | some (.slice e), .int _ (.ofNat n), .int _ (.ofNat m) => match aC P e, qJ P e, pW P e with
    | some size, some bytes, some z => cond (Nat.beq z.length size && (Nat.ble n m && (Nat.ble m (2 ^ 62) && Nat.ble (bytes * m) (2 ^ 48)))) (qN s (.row (Gq z m) size false) fun i s' => k (.sl i 0 n m) s') false
    | _, _, _ => false
  | _, _, _ => false
def U5 (t : TypeId) (x : AV) (f : Nat) (k : AV -> Bool) : Bool :=
  match P.underlying t, x with
  | some (.struct fs), .ptr i a => match mX P fs f with
    | some (off, size) => cond (Nat.beq size 0) false (fN (a + off) fun a' => k (.ptr i a'))
    | none => false
  | _, _ => false
def U2 (t : TypeId) (x : AV) (f : Nat) (k : AV -> Bool) : Bool :=
  match P.underlying t, x with
  | some (.struct fs), .agg cs => match fs.toList[f]? with
    | some fd => match P.underlying fd.type, aC P fd.type with
      | some d, some size => Es d size fd.offset cs k
      | _, _ => false
    | none => false
  | _, _ => false
def UW (t : TypeId) (x i : AV) (k : AV -> Bool) : Bool :=
  match P.underlying t, x, i with
  | some (.slice e), x, .int _ (.ofNat i) => match aC P e, x with
    | some size, .sl b o len _ => cond (Nat.blt i len) (fN (o + i * size) fun a => k (.ptr b a)) false
    | some size, .slo b o len _ => cond (Nat.blt i len) (fN (o + i * size) fun a => k (.ptr b a)) false
    | _, _ => false
  | some (.array n e), .ptr b o, .int _ (.ofNat i) => match aC P e with
    | some size => cond (Nat.blt i n) (fN (o + i * size) fun a => k (.ptr b a)) false
    | none => false
  | _, _, _ => false
def UK (t : TypeId) (x i : AV) (k : AV -> Bool) : Bool :=
  match P.underlying t, x, i with
  | some .string, .str b, .int _ (.ofNat i) => match b.data.toList[i]? with
    | some c => fN c.toNat fun n => k (.int .u8 (.ofNat n))
    | none => false
  | some (.array n e), .agg cs, .int _ (.ofNat i) => match P.underlying e, aC P e with
    | some d, some size => cond (Nat.blt i n) (Es d size (i * size) cs k) false
    | _, _ => false
  | _, _, _ => false
def UM (ty : TypeId) (t : AV) (i : Nat) (k : AV -> Bool) : Bool :=
  match t with
  | .dP vs => match vs[i]? with
    | some v => match shapeOf P ty with
      | some (.one kd) => cond (QE kd v) (k v) false
      | _ => k v
    | none => false
  | _ => false
def UN (t : TypeId) (x : AV) (s : St) (k : AV -> St -> Bool) : Bool :=
  match P.underlying t, x with
  | some (.map _ _), .map0 => qN s (.iter none 0 [] 0) fun i s' => k (.ptr i 0) s'
  | some (.map _ _), .map r => match s.h.get r with
    | some (.map _ c) => qN s (.iter (some r) c [] c) fun i s' => k (.ptr i 0) s'
    | _ => false
  | _, _ => false
def TN (cb : Cb) (ty : TypeId) (f : FuncId) (args : List AV) (s : St) (k : AV -> St -> Bool) : Bool :=
  match lI P ty with
  | some sh => cond (eH P f) (cb.call f args s fun rs s' => cond (wu sh rs) (k (RZ rs) s') false) false
  | none => false
def UY (cb : Cb) (ty : TypeId) (v : AV) (args : List AV) (s : St) (k : AV -> St -> Bool) : Bool :=
  match lI P ty, v with
  | some sh, .fn f first cap => cond (eH P f) (cb.call f (first ++ (args ++ cap)) s fun rs s' => cond (wu sh rs) (k (RZ rs) s') false) false
  | some sh, .yld l => cb.yld l args s fun b s' => cond (wu sh [.bool b]) (k (.bool b) s') false
  | _, _ => false
def U8 (cb : Cb) (ty : TypeId) (x : AV) (name : String) (args : List AV) (s : St) (k : AV -> St -> Bool) : Bool :=
  match x with
  | .ifc t v => match P.underlying t, Gi P t name with
    | some d, some f => cond (yu d) false (TN P cb ty f (v :: args) s k)
    | _, _ => false
  | _ => false
def Qu (t : TypeId) (x : AV) (k : AV -> Bool) : Bool :=
  match P.underlying t with
  | some (.interface _) => false
  | some _ => k (.ifc t x)
  | none => false
def JF (op : BinOp) (t : TypeId) (x y : AV) (k : AV -> Bool) : Bool :=
  match m_ op, P.underlying t, x, y with
  | some s, some (.interface _), .nilI, .nilI => k (.bool s)
  | some s, some (.interface _), .ifc _ _, .nilI => fB (!s) fun s => k (.bool s)
  | _, _, _, _ => false
def Qs (op : BinOp) (t : TypeId) (ρ : Operand -> AV) (x y : Operand) (k : AV -> Bool) : Bool :=
  match y with
  | .const .nilIface => JF P op t (ρ x) (ρ (.const .nilIface)) k
  | y => OO P op t (ρ x) (ρ y) k
def UR (t : TypeId) (x : AV) (ok : Bool) (k : AV -> Bool) : Bool :=
  match P.underlying t, iQ P t with
  | some (.interface _), _ => false
  | some _, some z => match x with
    | .ifc t' v => cond (Nat.beq t' t) (k (cond ok (.dP [v, .bool true]) v)) (cond ok (match sD z with
      | some a => k (.dP [a, .bool false])
      | none => false) false)
    | .nilI => cond ok (match sD z with
      | some a => k (.dP [a, .bool false])
      | none => false) false
    | _ => false
  | _, _ => false
def UQ (cb : Cb) (ty : TypeId) (ρ : Operand -> AV) (c : Callee) (ts : List TypeId) (args : List AV) (s : St) (k : AV -> St -> Bool) : Bool :=
  match c with
  | .value x => match x with
    | .func f => TN P cb ty f args s k
    | x => UY P cb ty (ρ x) args s k
  | .builtin b => TW P b ts args s k
  | .invoke x name => U8 P cb ty (ρ x) name args s k
def opC (cb : Cb) (op : Op) (ty : TypeId) (ρ : Operand -> AV) (s : St) (k : AV -> St -> Bool) : Bool :=
  match op with
  | .move x => k (ρ x) s
  | .assign x => k (ρ x) s
  | .pick c a b => JR (ρ c) (ρ a) (ρ b) s k
  | .alloc e => EZ P e s k
  | .box e x => P5 P e (ρ x) s k
  | .build t ps => EK P t (ps.toList.map fun p => (p.1, ρ p.2)) fun v => k v s
  | .buildSlice t n ps => AL P t n (ps.toList.map fun p => (p.1, ρ p.2)) s k
  | .load t x => U0 P t (ρ x) s k
  | .store t x y => U3 P t (ρ x) (ρ y) s k
  | .nilCheck x => Vd (ρ x) fun v => k v s
  | .binOp op t x y _ => Qs P op t ρ x y fun v => k v s
  | .unOp op _ x => TY op (ρ x) fun v => k v s
  | .convert sd d x => G7 P sd d (ρ x) s k
  | .makeFunc fn first cap => RF fn (first.toList.map ρ) (cap.toList.map ρ) fun v => k v s
  | .lookup t x i c => JZ P t (ρ x) (ρ i) c s k
  | .mapUpdate t x i v => Ry P t (ρ x) (ρ i) (ρ v) s k
  | .mapEntry t x i => JQ P t (ρ x) (ρ i) s k
  | .entryStore _ x st v => Qj (ρ x) (ρ st) (ρ v) s k
  | .makeMap _ none => SI s k
  | .makeSlice t l c => Tf P t (ρ l) (ρ c) s k
  | .slice t x lo hi mx => AX P t (ρ x) ρ lo hi mx s fun v => k v s
  | .fieldAddr t x f => U5 P t (ρ x) f fun v => k v s
  | .field t x f => U2 P t (ρ x) f fun v => k v s
  | .indexAddr t x i => UW P t (ρ x) (ρ i) fun v => k v s
  | .index t x i => UK P t (ρ x) (ρ i) fun v => k v s
  | .extract t i => UM P ty (ρ t) i fun v => k v s
  | .range t x => UN P t (ρ x) s k
  | .next x false => Gm (ρ x) s k
  | .entry x => B_ (ρ x) s fun v => k v s
  | .makeInterface t x => Qu P t (ρ x) fun v => k v s
  | .typeAssert x _ t ok => UR P t (ρ x) ok fun v => k v s
  | .call c => UQ P cb ty ρ c.callee c.argTypes.toList (c.args.toList.map ρ) s k
  | _ => false
end
end
end Gp.Rn
end
section
namespace Gp.Rn
open Go Gp
noncomputable section
mutual
def TL : SV -> SV -> Bool
  | .no, .no => true
  | .ret, .ret => true
  | .ex a, .ex b => Nat.beq a b
  | _, _ => false
end
def Us : LoopState -> LoopState -> Bool
  | .ready, .ready => true
  | .busy, .busy => true
  | .done, .done => true
  | .exhausted, .exhausted => true
  | _, _ => false
def Py : List (AV × AV × Nat) -> List (AV × AV × Nat) -> Bool
  | [], [] => true
  | (a, b, n) :: l, (a', b', n') :: l' => qh a a' && (qh b b' && (Nat.beq n n' && Py l l'))
  | _, _ => false
def PL : List Nat -> List Nat -> Bool
  | [], [] => true
  | a :: l, b :: l' => Nat.beq a b && PL l l'
  | _, _ => false
def Ve : Option Nat -> Option Nat -> Bool
  | none, none => true
  | some a, some b => Nat.beq a b
  | _, _ => false
def Vf (a b : Bool) : Bool := cond a b (!b)
def K_ : AB -> AB -> Bool
  | .row cs z p, .row cs' z' p' => sW cs cs' && (Nat.beq z z' && Vf p p')
  | .map es c, .map es' c' => Py es es' && Nat.beq c c'
  | .iter m a l c, .iter m' a' l' c' => Ve m m' && (Nat.beq a a' && (PL l l' && Nat.beq c c'))
  | .loop a j, .loop a' j' => Us a a' && TL j j'
  | .mark, .mark => true
  | .dead, .dead => true
  | _, _ => false
def Dn : Tr -> Tr -> Bool
  | .lf, .lf => true
  | .nd v l r, .nd v' l' r' => (match v, v' with
    | none, none => true
    | some a, some b => K_ a b
    | _, _ => false) && (Dn l l' && Dn r r')
  | _, _ => false
def zn (e e' : AE) : List (Nat × AV) -> Bool
  | [] => true
  | (t, _) :: r => (match e.get t, e'.get t with
    | some a, some b => qh a b
    | _, _ => false) && zn e e' r
structure JL where
  nt : Nat
  ps : List Nat
  ks : List Shape
  x : qA
  y : qA
  assign : Code
  body : Code
  env : AE
abbrev uF := List (Nat × JL)
def uF.get : uF -> Nat -> Option JL
  | [], _ => none
  | (l, i) :: r, m => cond (Nat.beq l m) (some i) (uF.get r m)
abbrev KC := Exit -> AE -> List Nat -> St -> Bool
abbrev RunT := Nat -> Code -> Option Nat -> qA -> AE -> List Nat -> uF -> St -> KC -> Bool
section
variable (P : Program) (cb : Cb) (nt : Nat)
def Va : Op -> Option Operand
  | .move x => some x
  | .assign x => some x
  | _ => none
def Ic (o : Oper) (e : AE) (s : St) (k : AE -> St -> Bool) : Bool :=
  match Va o.op with
  | some x => match Q5 e x with
    | some v => cond (fD nt o.dst) (k (e.put o.dst v) s) false
    | none => false
  | none => cond (fD nt o.dst) (match evs e o.op.operands.toList with
    | some _ => opC P cb o.op o.type (fun x => (Q5 e x).getD (.dP [])) s fun v s' => k (e.put o.dst v) s'
    | none => false) false
def uV (ops : List Oper) (o : Oper) (e : AE) (s : St) (k : AE -> St -> Bool) : Bool :=
  match o.guard with
  | none => Ic P cb nt o e s k
  | some (j, want) => match (ops[j]?).bind (·.dst) with
    | some d => match e.get d with
      | some (.bool t) => cond (t == want) (Ic P cb nt o e s k) (cond (fD nt o.dst) (k (e.put o.dst (.dP [])) s) false)
      | some (.dP _) => cond (fD nt o.dst) (k (e.put o.dst (.dP [])) s) false
      | _ => false
    | none => false
def KQ (ops : List Oper) (l : List Oper) : AE -> St -> (AE -> St -> Bool) -> Bool :=
  List.rec (motive := fun _ => AE -> St -> (AE -> St -> Bool) -> Bool) (fun e s k => k e s) (fun o _ ih e s k => uV P cb nt ops o e s fun e' s' => ih e' s' k) l
theorem opsC_cons (ops : List Oper) (o : Oper) (r : List Oper) (e : AE) (s : St) (k : AE -> St -> Bool) : KQ P cb nt ops (o :: r) e s k = uV P cb nt ops o e s fun e' s' => KQ P cb nt ops r e' s' k := rfl
def FH (sh : Shape) (a v : AV) (s : St) : Bool :=
  match sh, a with
  | .one _, .ptr i o => match Og s i o 1 with
    | some [u] => qh v u
    | _ => false
  | .agg _, .ptr i o => match v with
    | .agg vs => match Og s i o vs.length with
      | some us => sW vs us
      | none => false
    | _ => false
  | _, _ => false
def vg (pb : Nat) (s : St) : List (Nat × Shape × AV × AV) -> Bool
  | [] => true
  | (i, sh, a, v) :: r => cond (Nat.testBit pb i) (vg pb s r) (FH sh a v s && vg pb s r)
def J_ (ops : List Oper) (o : Oper) (e : AE) : Bool :=
  match o.guard with
  | none => true
  | some (j, want) => match (ops[j]?).bind (·.dst) with
    | some d => match e.get d with
      | some (.bool t) => t == want
      | some (.dP _) => false
      | _ => true
    | none => true
def MS (ops : List Oper) (i : Nat) (o : Oper) (e e' : AE) (ld : List (Nat × Shape × AV × AV)) : Option (List (Nat × Shape × AV × AV)) :=
  match o.op, o.dst with
  | .load t x, some d => cond (J_ ops o e) (match shapeOf P t with
    | some sh => match Q5 e x, e'.get d with
      | some a, some v => some ((i, sh, a, v) :: ld)
      | _, _ => none
    | none => some ld) (some ld)
  | _, _ => some ld
def TT : List (Nat × Nat) -> Nat -> Nat -> Nat
  | [], _, d => d
  | (i, n) :: r, j, d => cond (Nat.beq i j) n (TT r j d)
abbrev KD := AE -> St -> List (Nat × Nat) -> Bool
abbrev Qd := Option (List (Nat × Nat)) -> List (Nat × Nat) -> List Nat -> List (Nat × Shape × AV × AV) -> AE -> St -> KD -> Bool
def uX (ops : List Oper) (pbs : List Nat) (prev : Qd) (l acc : List (Nat × Nat)) (done : List Nat) (ld : List (Nat × Shape × AV × AV)) (e : AE) (s : St) (k : KD) : List (Nat × Oper) -> Bool
  | [] => true
  | x :: r => uV P cb nt ops x.2 e ⟨s.h, TT l x.1 s.n⟩ (fun e' s' => cond (vg (pbs.getD x.1 0) s' ld) (prev (some l) acc (x.1 :: done) ld e' s' k) false) && uX ops pbs prev l acc done ld e s k r
def Ny (ops : List Oper) (pbs : List Nat) (prev : Qd) (rp : Option (List (Nat × Nat))) (acc : List (Nat × Nat)) (done : List Nat) (ld : List (Nat × Shape × AV × AV)) (e : AE) (s : St) (k : KD) (i : Nat) (o : Oper) (es : List (Nat × Oper)) : Bool :=
  match rp with
  | none => uV P cb nt ops o e s fun e' s' => cond (vg (pbs.getD i 0) s' ld) (prev none ((i, s.n) :: acc) (i :: done) ld e' s' fun e0 s0 acc0 =>
      uX P cb nt ops pbs prev acc0 [] done ld e s (fun e1 s1 _ => zn e0 e1 e0 && Dn s0.h s1.h) es && k e0 s0 acc0) false
  | some l => uX P cb nt ops pbs prev l acc done ld e s k ((i, o) :: es)
def CO (ops : List Oper) (pbs : List Nat) (prev : Qd) : Qd := fun rp acc done ld e s k =>
  match kF P done (enumFrom 0 ops) with
  | some (i, o) => uV P cb nt ops o e s fun e' s' => match MS P ops i o e e' ld with
    | some ld' => prev rp acc (i :: done) ld' e' s' k
    | none => false
  | none => match qm P done (enumFrom 0 ops) with
    | [] => cond (Nat.beq done.length ops.length) (k e s acc) false
    | (i, o) :: es => Ny P cb nt ops pbs prev rp acc done ld e s k i o es
def BH (ops : List Oper) (pbs : List Nat) (n : Nat) : Qd :=
  Nat.rec (motive := fun _ => Qd) (fun _ _ _ _ _ _ _ => false) (fun _ prev => CO P cb nt ops pbs prev) n
end
def Gw : List (Nat × Kind) -> AE -> Option AE
  | [], _ => some []
  | (t, kd) :: r, e => match e.get t with
    | some v => cond (QE kd v) (match Gw r e with
      | some l => some ((t, v) :: l)
      | none => none) none
    | none => none
def O1 : Nat -> List AV -> AE
  | _, [] => []
  | i, v :: vs => (i, v) :: O1 (i + 1) vs
def JW : List Nat -> List AV -> AE
  | [], _ => []
  | _ :: _, [] => []
  | s :: r, v :: vs => (s, v) :: JW r vs
def rC : List Nat -> St -> (St -> Bool) -> Bool
  | [], s, k => k s
  | D :: ds, s, k => match s.h.get D with
    | some .mark => pF s D .dead fun s' => rC ds s' k
    | _ => false
def BG (P : Program) : List ResultVar -> AE -> St -> Option (List AV)
  | [], _, _ => some []
  | .tmp t :: r, e, s => match e.get t, BG P r e s with
    | some v, some l => some (v :: l)
    | _, _ => none
  | .cell a t :: r, e, s => match e.get a, shapeOf P t, aC P t with
    | some (.ptr i o), some (.one kd), some n => cond (Nat.beq 1 n) (match Og s i o 1, BG P r e s with
      | some [v], some l => cond (QE kd v) (some (v :: l)) none
      | _, _ => none) none
    | some (.ptr i o), some (.agg ks), some n => cond (Nat.beq ks.length n) (match Og s i o n, BG P r e s with
      | some vs, some l => cond (Bh ks vs) (some (.agg vs :: l)) none
      | _, _ => none) none
    | _, _, _ => none
structure P_ where
  f : FuncId
  args : List AV
  s : St
  rs : List AV
  t : St
structure Tab where
  ann : Nat -> Option qA
  memo : List P_
def CB : List P_ -> FuncId -> List AV -> St -> Option (List AV × St)
  | [], _, _, _ => none
  | m :: r, f, args, s => cond (Nat.beq m.f f) (cond (Nat.beq m.s.n s.n) (cond (sW m.args args && Dn m.s.h s.h) (some (m.rs, m.t)) (CB r f args s)) (CB r f args s)) (CB r f args s)
section
variable (P : Program) (A : Tab) (prev : RunT)
def FD (Γ : uF) (f : FuncId) (args : List AV) (s : St) (k : List AV -> St -> Bool) : Bool :=
  match P.funcs[f]?, A.ann f with
  | some fn, some an => match fn.body with
    | some c => cond (Nat.ble args.length fn.ntmps) (prev fn.ntmps c none an (O1 0 args) [] Γ s fun e env ds s' =>
      match e with
      | .normal => rC ds s' fun s'' => match BG P fn.results.toList env s'' with
        | some vs => k vs s''
        | none => false
      | .ret => rC ds s' fun s'' => match BG P fn.results.toList env s'' with
        | some vs => k vs s''
        | none => false
      | _ => false) false
    | none => false
  | _, _ => false
def zN (Γ : uF) (f : FuncId) (args : List AV) (s : St) (k : List AV -> St -> Bool) : Bool :=
  match CB A.memo f args s with
  | some (rs, t) => k rs t
  | none => FD P A prev Γ f args s k
def cb0 : Cb := ⟨fun _ _ _ _ => false, fun _ _ _ _ => false⟩
def Dq (nt : Nat) : Code -> qA -> AE -> St -> (AE -> St -> Bool) -> Bool
  | .skip, _, e, s, k => k e s
  | .region _ ops draw, _, e, s, k => cond draw false (KQ P cb0 nt ops.toList ops.toList e s k)
  | .seq a b, an, e, s, k => match an with
    | .seq x y => Dq nt a x e s fun e' s' => Dq nt b y e' s' k
    | _ => false
  | _, _, _, _, _ => false
def Bd (Γ : uF) (l : Nat) (args : List AV) (s : St) (k : Bool -> St -> Bool) : Bool :=
  match Γ.get l, s.h.get l with
  | some i, some (.loop .ready p) => cond (wu i.ks args) (Dq P i.nt i.assign i.x (JW i.ps args ++ i.env) s fun env1 s1 => pF s1 l (.loop .busy p) fun s2 => prev i.nt i.body (some l) i.y env1 [] Γ s2 fun e _ _ s3 => match s3.h.get l with
        | some (.loop .busy p3) => cond (TL p3 p) (match e with
          | .normal => pF s3 l (.loop .ready .no) fun s4 => k true s4
          | .ret => pF s3 l (.loop .done .ret) fun s4 => k false s4
          | .exit id => pF s3 l (.loop .done (.ex id)) fun s4 => k false s4
          | _ => false) false
        | _ => false) false
  | _, _ => false
def Oh (Γ : uF) : Cb := ⟨zN P A prev Γ, Bd P prev Γ⟩
def LD (nt : Nat) (g : Operand) (ps : List Nat) (assign body : Code) (ks : List Shape) (x y : qA) (env : AE) (ds : List Nat) (Γ : uF) (m : Option Nat) (s : St) (k : KC) : Bool :=
  match Q5 env g with
  | some (.fn f first cap) => cond (eH P f) (qN s (.loop .ready .no) fun l s1 =>
      zN P A prev ((l, ⟨nt, ps, ks, x, y, assign, body, env⟩) :: Γ) f (first ++ (.yld l :: cap)) s1 fun rs s2 => match rs, s2.h.get l with
        | [], some (.loop st p) => cond (Us st .busy) false (pF s2 l .dead fun s3 =>
            match p with
            | .no => k .normal env (m.toList ++ ds) s3
            | .ret => k .ret env (m.toList ++ ds) s3
            | .ex id => cond (kY id (ig body)) (k (.exit id) env (m.toList ++ ds) s3) false)
        | _, _ => false) false
  | _ => false
def Qa (nt : Nat) (ops : List Oper) (draw : Bool) (env : AE) (ds : List Nat) (Γ : uF) (s : St) (k : KC) : Bool :=
  cond draw (cond (sF ops (kD ops [])) (BH P (Oh P A prev Γ) nt ops (kD ops []) (ops.length + 1) none [] [] [] env s fun e s' _ => k .normal e ds s') false)
    (KQ P (Oh P A prev Γ) nt ops ops env s fun e s' => k .normal e ds s')
def RY (nt : Nat) (b : Code) (r : Option Nat) (y : qA) (Γ : uF) (k : KC) : KC := fun e env' ds' s' =>
  match e with
  | .normal => prev nt b r y env' ds' Γ s' k
  | e => k e env' ds' s'
def Nb (nt : Nat) (a b : Code) (r : Option Nat) (an : qA) (env : AE) (ds : List Nat) (Γ : uF) (s : St) (k : KC) : Bool :=
  match an with
  | .seq x y => prev nt a r x env ds Γ s (RY prev nt b r y Γ k)
  | _ => false
def condC (nt : Nat) (c : Operand) (a b : Code) (r : Option Nat) (an : qA) (env : AE) (ds : List Nat) (Γ : uF) (s : St) (k : KC) : Bool :=
  match an with
  | .cond x y => match Q5 env c with
    | some (.bool t) => cond t (prev nt a r x env ds Γ s k) (prev nt b r y env ds Γ s k)
    | _ => false
  | _ => false
def Sl (id : Nat) (k : KC) : KC := fun e env' ds' s' =>
  match e with
  | .exit id' => cond (Nat.beq id' id) (k .normal env' ds' s') (k (.exit id') env' ds' s')
  | e => k e env' ds' s'
def O4 (nt : Nat) (id : Nat) (a : Code) (r : Option Nat) (an : qA) (env : AE) (ds : List Nat) (Γ : uF) (s : St) (k : KC) : Bool :=
  match an with
  | .blk x => prev nt a r x env ds Γ s (Sl id k)
  | _ => false
def O7 (k : KC) : KC := fun e env' ds' s' =>
  match e with
  | .goto _ => false
  | e => k e env' ds' s'
abbrev U1 := AE -> List Nat -> St -> Bool
def Bc (nt : Nat) (a : Code) (r : Option Nat) (x : qA) (st : List (Nat × Kind)) (base : AE) (Γ : uF) (k : KC) (next : U1) : U1 := fun l ds s =>
  prev nt a r x (l ++ base) ds Γ s fun e env' ds' s' => match e with
    | .normal => match Gw st env' with
      | some l' => next l' (cond (dw a) ds' ds) s'
      | none => false
    | e => k e env' ds' s'
def Dt (nt : Nat) (a : Code) (r : Option Nat) (x : qA) (st : List (Nat × Kind)) (base : AE) (Γ : uF) (k : KC) (n : Nat) : U1 :=
  Nat.rec (motive := fun _ => U1) (fun _ _ _ => false) (fun _ next => Bc prev nt a r x st base Γ k next) n
def TR (nt : Nat) (a : Code) (r : Option Nat) (an : qA) (env : AE) (ds : List Nat) (Γ : uF) (s : St) (k : KC) : Bool :=
  match an with
  | .loop st x => match Gw st env with
    | some l => Dt prev nt a r x st (AE.without (writes a) env) Γ k 1000000 l ds s
    | none => false
  | _ => false
def UC (nt : Nat) (g : Operand) (ps : List Nat) (assign body : Code) (r : Option Nat) (an : qA) (env : AE) (ds : List Nat) (Γ : uF) (s : St) (k : KC) : Bool :=
  match an with
  | .rng ks x y => cond (!dw assign && (Nat.beq ps.length ks.length && (rU ps && ps.all fun s => Nat.blt s nt)))
      (match r with
       | none => qN s .mark fun m s1 => LD P A prev nt g ps assign body ks x y env ds Γ (some m) s1 k
       | some l0 => match s.h.get l0 with
         | some (.loop _ _) => LD P A prev nt g ps assign body ks x y env ds Γ none s k
         | _ => false) false
  | _ => false
def Ky : RunT := fun nt c r an env ds Γ s k =>
  match c with
  | .skip => k .normal env ds s
  | .label _ => k .normal env ds s
  | .ret => k .ret env ds s
  | .exit id => k (.exit id) env ds s
  | .region _ ops draw => Qa P A prev nt ops.toList draw env ds Γ s k
  | .seq a b => Nb prev nt a b r an env ds Γ s k
  | .cond c a b => condC prev nt c a b r an env ds Γ s k
  | .block id a => O4 prev nt id a r an env ds Γ s k
  | .scope a => prev nt a r an env ds Γ s (O7 k)
  | .loop a => TR prev nt a r an env ds Γ s k
  | .rangeFunc g ps assign body => UC P A prev nt g ps.toList assign body r an env ds Γ s k
  | _ => false
end
def run (P : Program) (A : Tab) (n : Nat) : RunT :=
  Nat.rec (motive := fun _ => RunT) (fun _ _ _ _ _ _ _ _ _ => false) (fun _ prev => Ky P A prev) n
def TI (P : Program) (A : Tab) (n : Nat) (f : FuncId) (k : List AV -> St -> Bool) : Bool := zN P A (run P A n) [] f [] ⟨.lf, 0⟩ k
end
end Gp.Rn
end
section
namespace Gp.Rn
open Go Gp
structure Loc where
  b : Nat
  c : Nat
  L : LoopState -> Option Code -> World -> Prop
abbrev Nm := Nat -> Option Loc
def Le (ρ ρ' : Nm) : Prop := ∀ i x, ρ i = some x -> ρ' i = some x
theorem Le.refl (ρ : Nm) : Le ρ ρ := fun _ _ h => h
theorem Le.trans {ρ ρ' ρ'' : Nm} (h : Le ρ ρ') (h' : Le ρ' ρ'') : Le ρ ρ'' := fun i x g => h' i x (h i x g)
mutual
inductive VR (ρ : Nm) : AV -> Value -> Prop
  | int (k n) : VR ρ (.int k n) (.int k n)
  | bool (b) : VR ρ (.bool b) (.bool b)
  | str (s) : VR ρ (.str s) (.string s)
  | ptr0 : VR ρ .ptr0 (.pointer none)
  | ptr {i o x} (h : ρ i = some x) : VR ρ (.ptr i o) (.pointer (some ⟨x.b, o, none⟩))
  | sl0 : VR ρ .sl0 (.slice none 0 0)
  | sl {i o n c x} (h : ρ i = some x) : VR ρ (.sl i o n c) (.slice (some ⟨x.b, o, none⟩) n c)
  | slo {i o n d x} (h : ρ i = some x) : VR ρ (.slo i o n d) (.slice (some ⟨x.b, o, none⟩) n (x.c - d))
  | slE {i x} (h : ρ i = some x) (o c) : VR ρ (.slE i) (.slice (some ⟨x.b, o, none⟩) 0 c)
  | map0 : VR ρ .map0 (.map none)
  | map {i x} (h : ρ i = some x) : VR ρ (.map i) (.map (some x.b))
  | fn (f) {a a' b b'} (h : eu ρ a a') (h' : eu ρ b b') : VR ρ (.fn f a b) (.func (.func f) ⟨a'⟩ ⟨b'⟩)
  | yld {i x} (h : ρ i = some x) : VR ρ (.yld i) (.func (.yield x.b) #[] #[])
  | agg {a a'} (h : eu ρ a a') : VR ρ (.agg a) (.agg ⟨a'⟩)
  | dP {a a'} (h : eu ρ a a') : VR ρ (.dP a) (.tuple ⟨a'⟩)
  | nilF : VR ρ .nilF .nilFunc
  | nilI : VR ρ .nilI .nilIface
  | ifc (t) {a v} (h : VR ρ a v) : VR ρ (.ifc t a) (.iface t v)
inductive eu (ρ : Nm) : List AV -> List Value -> Prop
  | nil : eu ρ [] []
  | cons {a v as vs} (h : VR ρ a v) (h' : eu ρ as vs) : eu ρ (a :: as) (v :: vs)
end
section
variable {ρ ρ' : Nm}
theorem VR.mono {a : AV} {v : Value} (h : VR ρ a v) (hl : Le ρ ρ') : VR ρ' a v := by
  refine VR.rec (motive_1 := fun a v _ => VR ρ' a v) (motive_2 := fun a v _ => eu ρ' a v) ?_ ?_ ?_ ?_ ?_ ?_ ?_ ?_ ?_ ?_ ?_ ?_ ?_ ?_ ?_ ?_ ?_ ?_ ?_ ?_ h
  · exact fun k n => .int k n
  · exact fun b => .bool b
  · exact fun b => .str b
  · exact .ptr0
  · exact fun h => .ptr (hl _ _ h)
  · exact .sl0
  · exact fun h => .sl (hl _ _ h)
  · exact fun h => .slo (hl _ _ h)
  · exact fun h o c => .slE (hl _ _ h) o c
  · exact .map0
  · exact fun h => .map (hl _ _ h)
  · exact fun f _ _ _ _ _ _ h h' => .fn f h h'
  · exact fun h => .yld (hl _ _ h)
  · exact fun _ h => .agg h
  · exact fun _ h => .dP h
  · exact .nilF
  · exact .nilI
  · exact fun t _ _ _ h => .ifc t h
  · exact .nil
  · exact fun _ _ h h' => .cons h h'
theorem eu.iff {a : List AV} {v : List Value} : eu ρ a v ↔ a.length = v.length ∧ ∀ (i : Nat) (x : AV) (y : Value), a[i]? = some x -> v[i]? = some y -> VR ρ x y := by
  constructor
  · intro h
    induction a generalizing v with
    | nil => cases h; exact ⟨rfl, fun i x y hx => by simp at hx⟩
    | cons x a ih =>
      cases h with
      | cons h h' =>
        obtain ⟨l, g⟩ := ih h'
        refine ⟨by simp [l], fun i y z hy hz => ?_⟩
        cases i with
        | zero => simp at hy hz; subst hy hz; exact h
        | succ i => exact g i y z (by simpa using hy) (by simpa using hz)
  · intro ⟨l, g⟩
    induction a generalizing v with
    | nil => cases v with
      | nil => exact .nil
      | cons y v => simp at l
    | cons x a ih => cases v with
      | nil => simp at l
      | cons y v => exact .cons (g 0 x y rfl rfl) (ih (by simpa using l) fun i z u hz hu => g (i + 1) z u (by simpa using hz) (by simpa using hu))
theorem eu.mono {a : List AV} {v : List Value} (h : eu ρ a v) (hl : Le ρ ρ') : eu ρ' a v := by
  rw [eu.iff] at h ⊢
  exact ⟨h.1, fun i x y hx hy => (h.2 i x y hx hy).mono hl⟩
theorem eu.len {a : List AV} {v : List Value} (h : eu ρ a v) : a.length = v.length := (eu.iff.1 h).1
theorem eu.get {a : List AV} {v : List Value} (h : eu ρ a v) {i : Nat} {x : AV} (hx : a[i]? = some x) : ∃ y, v[i]? = some y ∧ VR ρ x y := by
  obtain ⟨l, g⟩ := eu.iff.1 h
  have hi := (List.getElem?_eq_some_iff.1 hx).1
  exact ⟨_, List.getElem?_eq_getElem (by omega), g i x _ hx (List.getElem?_eq_getElem (by omega))⟩
theorem eu.app {a b : List AV} {v u : List Value} (h : eu ρ a v) (h' : eu ρ b u) : eu ρ (a ++ b) (v ++ u) := by
  induction a generalizing v with
  | nil => cases h; exact h'
  | cons x a ih => cases h with | cons g g' => exact .cons g (ih g')
theorem eu.take {a : List AV} {v : List Value} (h : eu ρ a v) (n : Nat) : eu ρ (a.take n) (v.take n) := by
  induction n generalizing a v with
  | zero => simp; exact .nil
  | succ n ih => cases h with
    | nil => simp; exact .nil
    | cons g g' => simp; exact .cons g (ih g')
theorem eu.drop {a : List AV} {v : List Value} (h : eu ρ a v) (n : Nat) : eu ρ (a.drop n) (v.drop n) := by
  induction n generalizing a v with
  | zero => exact h
  | succ n ih => cases h with
    | nil => simp; exact .nil
    | cons g g' => simp; exact ih g'
theorem eu.set {a : List AV} {v : List Value} (h : eu ρ a v) (i : Nat) {x : AV} {y : Value} (hx : VR ρ x y) : eu ρ (a.set i x) (v.set i y) := by
  induction a generalizing v i with
  | nil => cases h; exact .nil
  | cons z a ih => cases h with
    | cons g g' => cases i with
      | zero => exact .cons hx g'
      | succ i => exact .cons g (ih g' i)
theorem eu.rep {a : List AV} {v : List Value} (h : eu ρ a v) : ∀ n, eu ρ (Gq a n) (aB v n)
  | 0 => .nil
  | n + 1 => h.app (eu.rep h n)
theorem eu.map {α : Type} {l : List α} {f : α -> AV} {g : α -> Value} (h : ∀ x ∈ l, VR ρ (f x) (g x)) : eu ρ (l.map f) (l.map g) := by
  induction l with
  | nil => exact .nil
  | cons x l ih => exact .cons (h x (List.mem_cons_self ..)) (ih fun y hy => h y (List.mem_cons_of_mem _ hy))
theorem Hf {v : Value} {a : AV} (h : G5 v = some a) : VR ρ a v := by
  unfold G5 at h
  split at h <;> first | (cases h; constructor) | cases h
theorem rG : ∀ {v : List Value} {a : List AV}, o7 v = some a -> eu ρ a v
  | [], _, h => by cases h; exact .nil
  | x :: v, a, h => by
    unfold o7 at h
    split at h
    · rename_i y l hy hl
      cases h
      exact .cons (Hf hy) (rG hl)
    · cases h
theorem lM {v : Value} {a : AV} (h : sD v = some a) : VR ρ a v := by
  unfold sD at h
  split at h
  · split at h
    · rename_i cs l hl
      cases h
      have := rG (ρ := ρ) hl
      exact .agg this
    · cases h
  · split at h
    · rename_i vs _ hv
      cases h
      obtain ⟨vs⟩ := vs
      have : vs = [] := hv
      subst this
      exact .dP .nil
    · cases h
  · exact Hf h
theorem Jc {a : AV} {v : Value} (h : VR ρ a v) (h1 : one a = true) : bK v = true := by
  cases h <;> first | rfl | cases h1
theorem xU : ∀ {a : List AV} {v : List Value}, eu ρ a v -> oZ a = true -> ∀ x ∈ v, bK x = true
  | [], _, h, _ => by cases h; simp
  | y :: a, _, h, h1 => by
    cases h with
    | cons g g' =>
      unfold oZ at h1
      rw [Bool.and_eq_true] at h1
      intro x hx
      rcases List.mem_cons.1 hx with rfl | hx
      · exact Jc g h1.1
      · exact xU g' h1.2 x hx
theorem oU {a b : IntKind} (h : qK a b = true) : a = b := by cases a <;> cases b <;> first | rfl | cases h
theorem pI {k : Kind} {a : AV} {v : Value} (h : VR ρ a v) (h1 : QE k a = true) : ∃ x : k.T, v = k.enc x := by
  cases k with
  | any => exact ⟨v, rfl⟩
  | int k => cases h <;> first | (rename_i k' n; cases oU h1; exact ⟨n, rfl⟩) | cases h1
  | bool => cases h <;> first | exact ⟨_, rfl⟩ | cases h1
  | str => cases h <;> first | exact ⟨_, rfl⟩ | cases h1
  | ptr => cases h <;> first | exact ⟨_, rfl⟩ | cases h1
  | slice => cases h <;> first | exact ⟨⟨_, _, _⟩, rfl⟩ | cases h1
  | map => cases h <;> first | exact ⟨_, rfl⟩ | cases h1
theorem JX : ∀ {ks : List Kind} {a : List AV} {v : List Value} {φ : List Value -> Prop}, eu ρ a v -> Bh ks a = true -> φ v -> KL ks φ
  | [], [], _, φ, h, _, hp => by cases h; exact hp
  | [], _ :: _, _, _, _, h1, _ => by cases h1
  | _ :: _, [], _, _, _, h1, _ => by cases h1
  | k :: ks, x :: a, _, φ, h, h1, hp => by
    cases h with
    | cons g g' =>
      unfold Bh at h1
      rw [Bool.and_eq_true] at h1
      obtain ⟨y, rfl⟩ := pI g h1.1
      exact ⟨y, JX g' h1.2 hp⟩
theorem FI {sh : Shape} {a : AV} {v : Value} {φ : Value -> Prop} (h : VR ρ a v) (h1 : Si sh a = true) (hp : φ v) : sh.ex φ := by
  cases sh with
  | one k =>
    obtain ⟨x, rfl⟩ := pI h h1
    exact ⟨x, hp⟩
  | agg ks => cases h with
    | agg g => exact JX g h1 hp
    | _ => cases h1
theorem sN : ∀ {sh : List Shape} {a : List AV} {v : List Value} {φ : List Value -> Prop}, eu ρ a v -> wu sh a = true -> φ v -> fJ sh φ
  | [], [], _, φ, h, _, hp => by cases h; exact hp
  | [], _ :: _, _, _, _, h1, _ => by cases h1
  | _ :: _, [], _, _, _, h1, _ => by cases h1
  | s :: sh, x :: a, _, φ, h, h1, hp => by
    cases h with
    | cons g g' =>
      unfold wu at h1
      rw [Bool.and_eq_true] at h1
      exact FI g h1.1 (φ := fun v => fJ sh fun vs => φ (v :: vs)) (sN g' h1.2 hp)
theorem JE {a : List AV} {v : List Value} (h : eu ρ a v) : VR ρ (RZ a) (dP v) := by
  cases h with
  | nil => exact .dP .nil
  | cons g g' => cases g' with
    | nil => exact g
    | cons g1 g2 => exact .dP (.cons g (.cons g1 g2))
theorem AE.get_nil (t : Nat) : AE.get [] t = none := rfl
theorem AE.bV (s : Nat) (v : AV) (r : AE) (t : Nat) : AE.get ((s, v) :: r) t = if s = t then some v else AE.get r t := by
  show (Bool.rec (AE.get r t) (some v) (Nat.beq s t) : Option AV) = _
  by_cases h : s = t
  · rw [if_pos h, show Nat.beq s t = true from h ▸ Nat.beq_refl s]
  · rw [if_neg h]
    cases hb : Nat.beq s t with
    | false => rfl
    | true => exact absurd (Nat.eq_of_beq_eq_true hb) h
def ER (ρ : Nm) (e : AE) (env : Env) : Prop := ∀ t v, e.get t = some v -> ∃ u, env.get t = some u ∧ VR ρ v u
theorem ER.mono {e : AE} {env : Env} (h : ER ρ e env) (hl : Le ρ ρ') : ER ρ' e env := fun t v g => by
  obtain ⟨u, h1, h2⟩ := h t v g
  exact ⟨u, h1, h2.mono hl⟩
theorem ER.nil {env : Env} : ER ρ [] env := fun t v h => by rw [AE.get_nil] at h; cases h
theorem ER.cons {e : AE} {env : Env} (h : ER ρ e env) {v : AV} {u : Value} (hv : VR ρ v u) (s : Nat) : ER ρ ((s, v) :: e) ((s, u) :: env) := fun t x g => by
  rw [AE.bV] at g
  rw [bV]
  split at g
  · cases g
    rw [if_pos (by assumption)]
    exact ⟨u, rfl, hv⟩
  · rw [if_neg (by assumption)]
    exact h t x g
theorem ER.put {e : AE} {env : Env} (h : ER ρ e env) (d : Option Nat) {v : AV} {u : Value} (hv : VR ρ v u) : ER ρ (e.put d v) (env.put d u) := by
  cases d with
  | none => exact h
  | some s => exact h.cons hv s
theorem CU {e : AE} {env : Env} (h : ER ρ e env) {x : Operand} {a : AV} (hx : Q5 e x = some a) : ∃ v, MO env x = some v ∧ VR ρ a v := by
  cases x with
  | tmp t => exact h t a hx
  | const v => exact ⟨v, rfl, lM hx⟩
  | global g => cases hx
  | func f => cases hx; exact ⟨_, rfl, .fn f .nil .nil⟩
theorem Nz {e : AE} {env : Env} (h : ER ρ e env) : ∀ {l : List Operand} {as : List AV}, evs e l = some as -> Ai env l = true ∧ ∀ x ∈ l, VR ρ ((Q5 e x).getD (.dP [])) (ev env x)
  | [], _, _ => ⟨rfl, by simp⟩
  | x :: l, as, g => by
    unfold evs at g
    split at g
    · rename_i a m ha hm
      obtain ⟨g1, g2⟩ := Nz h hm
      obtain ⟨v, hv, hr⟩ := CU h ha
      refine ⟨by unfold Ai; rw [hv, g1]; rfl, fun y hy => ?_⟩
      rcases List.mem_cons.1 hy with rfl | hy
      · rw [ha]
        unfold ev
        rw [hv]
        exact hr
      · exact g2 y hy
    · cases g
end
end Gp.Rn
end
