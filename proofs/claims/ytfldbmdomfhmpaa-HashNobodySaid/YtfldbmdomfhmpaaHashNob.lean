import Derived.Test.YtfldbmdomfhmpaaHashLaw
namespace Go.Proofs
open Gp Gp.Hash

/-- A table that no call made. -/
def Dead (w : World) (p : Option Addr) : Prop := p = none ∨ ∃ b, p = some ⟨b, 0, none⟩ ∧ Row w b [.slice none 0 0, .int .i64 0, .int .i64 0, .bool false]

theorem Dead.fr {w w' : World} {p : Option Addr} (h : Dead w p) (hf : ∀ S, Fr8 w w' S) : Dead w' p := by
  rcases h with rfl | ⟨b, rfl, h⟩
  · exact .inl rfl
  · exact .inr ⟨b, rfl, h.fr (hf fun _ => False) (by simp)⟩

theorem ready_dead {w : World} {p : Option Addr} (h : Dead w p) : c_hash_Table_ready p w fun r w' => r = false ∧ w' = w := by
  apply ok_hash_Table_ready
  rcases h with rfl | ⟨b, rfl, h⟩
  · simp only [s_hash_Table_ready, Option.isNone_none, cond_false, Ld_eq, Bool.not_true]
    exact ⟨trivial, trivial⟩
  · simp only [s_hash_Table_ready, Option.isNone_some, cond_true, ex_some, Ld_eq, List.getElem?_cons_zero, List.getElem?_cons_succ, LdV_some, dec_bool, add_mk, Nat.zero_add, h.cell, Bool.not_false]
    exact ⟨trivial, trivial⟩

theorem get_dead {w : World} {p : Option Addr} (h : Dead w p) (k : ByteArray) : c_hash_Table_Get p k w fun n t w' => t = false ∧ w' = w := by
  apply ok_hash_Table_Get
  unfold s_hash_Table_Get
  refine cm_hash_Table_ready (ready_dead h) ?_
  rintro r w2 ⟨rfl, rfl⟩
  exact ⟨rfl, rfl⟩

theorem put_dead {w : World} {p : Option Addr} (h : Dead w p) (k : ByteArray) (n : Int) : c_hash_Table_Put p k n w fun e w' => e = 2 ∧ w' = w := by
  apply ok_hash_Table_Put
  unfold s_hash_Table_Put
  refine cm_hash_Table_ready (ready_dead h) ?_
  rintro r w2 ⟨rfl, rfl⟩
  exact ⟨rfl, rfl⟩

theorem len_dead {w : World} {p : Option Addr} (h : Dead w p) : c_hash_Table_Len p w fun n w' => n = 0 ∧ w' = w := by
  apply ok_hash_Table_Len
  unfold s_hash_Table_Len
  refine cm_hash_Table_ready (ready_dead h) ?_
  rintro r w2 ⟨rfl, rfl⟩
  exact ⟨rfl, rfl⟩

theorem delete_dead {w : World} {p : Option Addr} (h : Dead w p) (hp : isOne (Value.pointer p) = true) (k : ByteArray) : c_hash_Table_Delete p k w fun r w' => r = false ∧ ∀ S, Fr8 w w' S := by
  apply ok_hash_Table_Delete
  unfold s_hash_Table_Delete
  refine ⟨hp, Al_row fun a2 w1 q2 _ _ f1 => ?_⟩
  simp only [Ld_eq, List.getElem?_cons_zero, LdV_some, dec_ptr, q2.cell]
  refine cm_hash_Table_ready (ready_dead (h.fr f1)) ?_
  rintro r w2 ⟨rfl, rfl⟩
  exact ⟨by trivial, f1⟩

theorem all_ok (p : Option Addr) (w : World) : c_hash_Table_All p w fun r w' => ∃ f0, r = .func (.func 24) #[] #[(Value.pointer (some ⟨f0, 0, none⟩))] ∧ Row w' f0 [.pointer p] ∧ w.heap.size ≤ f0 ∧ ∀ S, Fr8 w w' S := by
  apply ok_hash_Table_All
  unfold s_hash_Table_All
  exact ⟨rfl, Al_row fun a2 w1 r1 e1 _ f1 => ⟨a2, rfl, r1, by omega, f1⟩⟩

theorem all_dead {w : World} {f0 : Nat} {p : Option Addr} {body : Nat → DenK [.str, .int .i64] → World → (Exit → World → Prop) → Prop} {Kn Kr : World → Prop} {Kx : List (Nat × (World → Prop))}
    (hf : Row w f0 [.pointer p]) (hp : Dead w p) (hk : ∀ W, FI w W (fun _ => False) → Kn W) :
    RngP Try.prog none [.str, .int .i64] (Value.func (.func 24) #[] #[(Value.pointer (some ⟨f0, 0, none⟩))]) w body Kn Kr Kx := by
  refine ⟨fun l₀ h => (by cases h), by kernel_rfl, fun l L w1 ctx => ?_⟩
  have hl : l = w.heap.size + 1 := ctx.at_
  subst hl
  have hF : ∀ S, Fr8 w w1 S := fun S => ⟨by have := ctx.size; omega, fun b hb _ => ctx.old b hb, ctx.io⟩
  refine Calls.mono (ok_hash_Table_All_1 (a0 := .func (.yield (w.heap.size + 1)) #[] #[]) (f0 := ⟨f0, 0, none⟩)
    (K := fun w2 => ∃ st p, L st p w2 ∧ st ≠ .busy ∧ jumpK Kn Kr Kx p (setLoop w2 (w.heap.size + 1) .exhausted p)) ?_) (fun e w' h => h)
  unfold s_hash_Table_All_1
  simp only [Ld_eq, List.getElem?_cons_zero, LdV_some, dec_ptr, (hf.fr (hF fun _ => False) (by simp)).cell]
  refine cm_hash_Table_ready (ready_dead (hp.fr hF)) ?_
  rintro r w2 ⟨rfl, rfl⟩
  simp only [Bool.not_false, cond_true]
  have f1 : FI w w2 fun _ => False := ⟨hF _, ctx.marks rfl, by have := ctx.size; omega⟩
  exact ⟨.ready, none, ctx.ready, by simp, hk _ (f1.st (Fr8.setLoop _ _ _ _))⟩

theorem FI.all {w W W' : World} {S : Nat → Prop} (h : FI w W S) (hf : ∀ S, Fr8 W W' S) : FI w W' S :=
  ⟨h.fr.trans (hf S) fun _ _ e => e, by rw [(hf fun _ => False).same _ (by have := h.size; omega) (by simp)]; exact h.mark, by have := h.size; have := (hf fun _ => False).size; omega⟩

theorem nobody_ok (w : World) (k : ByteArray) (n : Int) : c_law18_HashNobody k n w fun r w' => r = true ∧ ∀ S, Fr8 w w' S := by
  apply ok_law18_HashNobody
  unfold s_law18_HashNobody
  refine Al_row fun a2 w1 q2 e2 _ f1 => ?_
  refine cm_law18_awake (hawake_ok w1) ?_
  rintro r w4 ⟨rfl, f4⟩
  simp only [Bool.not_true, cond_false]
  have q2 := q2.fr (f4 fun _ => False) (by simp)
  refine Al_row fun a8 w7 q8 e8 _ f7 => ?_
  have q2 := q2.fr (f7 fun _ => False) (by simp)
  refine cm_hash_Table_All (all_ok none w7) ?_
  rintro r w10 ⟨f0, rfl, q0, _, f10⟩
  have q2 := q2.fr (f10 fun _ => False) (by simp)
  have q8 : Row w10 a8 _ := q8.fr (f10 fun _ => False) (by simp)
  have hb : ∀ S, Fr8 w w10 S := fun S => (((f1 S).trans (f4 S) fun _ _ e => e).trans (f7 S) fun _ _ e => e).trans (f10 S) fun _ _ e => e
  have l2 := q2.lt
  refine all_dead q0 (.inl rfl) fun W hF => ?_
  have dn : ∀ W, Dead W none := fun W => .inl rfl
  have dz : Dead W (some ⟨a8, 0, none⟩) := .inr ⟨a8, rfl, q8.fr hF.fr (by simp)⟩
  have q2 := q2.fr hF.fr (by simp)
  refine cm_hash_Table_Get (get_dead dz k) ?_
  rintro v t w19 ⟨rfl, rfl⟩
  refine cm_hash_Table_Put (put_dead (dn _) k n) ?_
  rintro e w24 ⟨rfl, rfl⟩
  simp only [beq_self_eq_true, cond_true]
  refine cm_hash_Table_Put (put_dead dz k n) ?_
  rintro e w26 ⟨rfl, rfl⟩
  simp only [beq_self_eq_true, cond_true]
  refine cm_hash_Table_Delete (delete_dead (dn _) rfl k) ?_
  rintro r w28 ⟨rfl, f28⟩
  simp only [Bool.not_false, cond_true]
  refine cm_hash_Table_Len (len_dead (dn _)) ?_
  rintro r w30 ⟨rfl, rfl⟩
  simp only [beq_self_eq_true, cond_true]
  refine cm_hash_Table_Len (len_dead (dz.fr f28)) ?_
  rintro r w32 ⟨rfl, rfl⟩
  simp only [beq_self_eq_true, cond_true]
  refine cm_law18_awake (hawake_ok _) ?_
  rintro r w34 ⟨rfl, f34⟩
  have hF := (hF.all f28).all f34
  have q2 := (q2.fr (f28 fun _ => False) (by simp)).fr (f34 fun _ => False) (by simp)
  refine St_row q2 rfl (by simp) fun w35 q35 f35 _ => ?_
  simp only [List.set_cons_zero] at q35
  have hz := hF.size
  have hzw := (hb fun _ => False).size
  have s1 := (f1 fun _ => False).size
  refine ⟨by rw [(f35 (· = a2) rfl).same _ (by omega) (by omega)]; exact hF.mark, ?_⟩
  have pf := Fr8.putObj w35 w10.heap.size (.deferred none)
  simp only [Ld_eq, List.getElem?_cons_zero, LdV_some, dec_bool, (q35.fr pf (by omega)).cell]
  refine ⟨by trivial, fun S => ?_⟩
  exact (((hb S).trans hF.fr fun x hx e => e.elim).trans (f35 (· = a2) rfl) fun x hx e => by omega).trans pf fun x hx e => by
    have e' : x = w10.heap.size := e
    omega
end Go.Proofs
