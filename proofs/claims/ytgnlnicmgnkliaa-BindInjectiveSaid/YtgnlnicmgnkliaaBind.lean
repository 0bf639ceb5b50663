import Derived.Test.YtgnlnicmgnkliaaHash
import Derived.Test.YtgnlnicmgnkliaaBePut
import Derived.Test.YtgnlnicmgnkliaaBindPure
import Derived.Test.YtgnlnicmgnkliaaBufN
/- Bindings in slots: what the program's functions compute. -/
namespace Go.Proofs
open Gp Gp.Hash
set_option maxRecDepth 100000

theorem beN8 (m : Nat) : V4.beN 8 m = V4.beN 4 (m / 4294967296) ++ V4.beN 4 (m % 4294967296) := by
  simp only [V4.beN, List.cons_append, List.nil_append, List.cons.injEq, and_true]
  refine ⟨?_, ?_, ?_, ?_, ?_, ?_, ?_, ?_⟩ <;> apply UInt8.toNat_inj.1 <;> simp <;> omega

theorem hi_lo {x : Int} (h : Bind.In64 x) : andI .i64 (shrI .i64 x 32) 4294967295 = (((x % 18446744073709551616).toNat / 4294967296 : Nat) : Int) ∧ andI .i64 x 4294967295 = (((x % 18446744073709551616).toNat % 4294967296 : Nat) : Int) := by
  obtain ⟨h1, h2⟩ := h
  have low : ∀ y : Int, andI .i64 y 4294967295 = (((y % 18446744073709551616).toNat % 4294967296 : Nat) : Int) := by
    intro y
    unfold andI
    have e1 : (BitVec.ofInt (IntKind.bits .i64) y).toNat = (y % 18446744073709551616).toNat := by rw [bits64, BitVec.toNat_ofInt]; rfl
    have e2 : (BitVec.ofInt (IntKind.bits .i64) 4294967295).toNat = 2 ^ 32 - 1 := by rw [bits64, BitVec.toNat_ofInt]; rfl
    rw [BitVec.toNat_and, e1, e2, and_low]
    rw [wrap_i64 (by omega) (by omega)]
  refine ⟨?_, low x⟩
  rw [low]
  unfold shrI
  have e : (2 : Int) ^ (min (32 : Int).toNat (IntKind.bits .i64)) = 4294967296 := by decide
  rw [e, Int.fdiv_eq_ediv_of_nonneg _ (by omega)]
  omega

theorem key_ok {w : World} {b : Nat} {ns : List Int} {vs : List Value} (h : Row w b vs) (hv : vs = ns.map fun n => Value.int .i64 n) (n c : Nat) (hn : n = ns.length) (hl : ns.length ≤ 10) (hr : ∀ n ∈ ns, Bind.In64 n) :
    c_bind_key ⟨some ⟨b, 0, none⟩, n, c⟩ w fun r w' => r = Bind.keyS ns ∧ Ext w w' := by
  subst hv hn
  apply ok_bind_key
  unfold s_bind_key
  refine LoopP_inv (fun st W => ∃ i : Nat, i ≤ ns.length ∧ st.2.1 = (i : Int) ∧ SlB W st.1 (Bind.keyB (ns.take i)) ∧ Ext w W) (fun st _ => ns.length - st.2.1.toNat) ⟨0, by omega, rfl, SlB.nil, Ext.refl _⟩ ?_
  rintro ⟨s, x, ⟨⟩⟩ W ⟨i, hi, rfl, hs, hx⟩ next hnext
  have hs : SlB W s (Bind.keyB (ns.take i)) := hs
  by_cases hlt : i < ns.length
  · have hlt' : ((i : Int) < (ns.length : Int)) := by omega
    simp only [hlt', decide_true, cond_true, Ld_eq, LdV_some, dec_int, AtIx_some, add_mk, Nat.zero_add, Int.toNat_natCast, Nat.mul_one, (h.ext hx).cell, List.getElem?_map, List.getElem?_eq_getElem hlt, Option.map_some]
    refine ⟨by omega, by trivial, by omega, ?_⟩
    obtain ⟨e1, e2⟩ := hi_lo (hr _ (List.getElem_mem hlt))
    rw [e1, e2]
    generalize hm : (ns[i] % 18446744073709551616).toNat = m
    have hm2 : m < 18446744073709551616 := by omega
    have kl := Bind.keyB_len (ns.take i)
    have kl2 : (ns.take i).length ≤ 10 := by simp; omega
    refine cm_be_Put (put_ok hs (by omega) _ 4) ?_
    rintro t1 w1 ⟨b1, f1, _⟩
    have p1 : putL (Bind.keyB (ns.take i)) ((m / 4294967296 : Nat) : Int) 4 = Bind.keyB (ns.take i) ++ V4.beN 4 (m / 4294967296) := by
      unfold putL; rw [if_pos ⟨⟨by omega, by omega⟩, by omega, by simp; omega⟩]; rfl
    rw [p1] at b1
    refine cm_be_Put (put_ok (SlB.of_buf b1) (by simp [V4.beN_len]; omega) _ 4) ?_
    rintro t2 w2 ⟨b2, f2, _⟩
    have p2 : putL (Bind.keyB (ns.take i) ++ V4.beN 4 (m / 4294967296)) ((m % 4294967296 : Nat) : Int) 4 = Bind.keyB (ns.take i) ++ V4.beN 4 (m / 4294967296) ++ V4.beN 4 (m % 4294967296) := by
      unfold putL; rw [if_pos ⟨⟨by omega, by omega⟩, by omega, by simp; omega⟩]; rfl
    rw [p2] at b2
    rw [wrap_i64 (by omega) (by omega)]
    refine hnext _ _ ⟨i + 1, by omega, by simp, ?_, (hx.trans f1).trans f2⟩ (by simp only; omega)
    have ek : Bind.keyB (ns.take (i + 1)) = Bind.keyB (ns.take i) ++ V4.beN 4 (m / 4294967296) ++ V4.beN 4 (m % 4294967296) := by
      rw [List.take_succ_eq_append_getElem hlt]
      unfold Bind.keyB
      rw [List.flatMap_append, List.flatMap_singleton, hm, beN8, List.append_assoc]
    rw [ek]
    exact SlB.of_buf b2
  · have hlt' : ¬ ((i : Int) < (ns.length : Int)) := by omega
    simp only [hlt', decide_false, cond_false]
    have : i = ns.length := by omega
    subst this
    rw [List.take_length] at hs
    exact bytesStr_of hs ⟨rfl, hx⟩

theorem keyS_size (l : List Int) (h : l.length ≤ 10) : (Bind.keyS l).size ≤ 2 ^ 63 - 1 := by
  have : (Bind.keyS l).size = (Bind.keyB l).length := rfl
  rw [this, Bind.keyB_len]; omega

theorem ikey_ok (a b c d : Int) (h : ∀ n ∈ [a, b, c, d], Bind.In64 n) (w : World) : c_bind_innerKey a b c d w fun r w' => r = Bind.keyS [a, b, c, d] ∧ Ext w w' := by
  apply ok_bind_innerKey
  unfold s_bind_innerKey
  refine Al_e fun p w1 r1 _ _ f1 => ?_
  simp only [Ld_eq, List.getElem?_cons_zero, List.getElem?_cons_succ, LdV_some, dec_int, add_mk, Nat.zero_add, r1.cell]
  refine Al_e fun q w2 r2 _ _ f2 => ?_
  refine cm_bind_key (key_ok (ns := [a, b, c, d]) r2 rfl 4 4 rfl (by simp) h) ?_
  rintro _ w3 ⟨rfl, f3⟩
  exact ⟨rfl, (f1.trans f2).trans f3⟩

theorem okey_ok (a b c : Int) (h : ∀ n ∈ [a, b, c], Bind.In64 n) (w : World) : c_bind_outerKey a b c w fun r w' => r = Bind.keyS [a, b, c] ∧ Ext w w' := by
  apply ok_bind_outerKey
  unfold s_bind_outerKey
  refine Al_e fun p w1 r1 _ _ f1 => ?_
  simp only [Ld_eq, List.getElem?_cons_zero, List.getElem?_cons_succ, LdV_some, dec_int, add_mk, Nat.zero_add, r1.cell]
  refine Al_e fun q w2 r2 _ _ f2 => ?_
  refine cm_bind_key (key_ok (ns := [a, b, c]) r2 rfl 3 3 rfl (by simp) h) ?_
  rintro _ w3 ⟨rfl, f3⟩
  exact ⟨rfl, (f1.trans f2).trans f3⟩

/-! ### In memory -/
open Gp.Bind (Bnd Slots live GoodB freeN getS In64)

def slotV : Option Bnd → List Value
  | none => [.int .i64 0, .int .i64 0, .int .i64 0, .int .i64 0, .int .i64 0, .int .i64 0, .int .i64 0, .bool false, .bool false]
  | some b => [.int .i64 b.sw, .int .i64 b.pr, .int .i64 b.ad, .int .i64 b.po, .int .i64 b.opr, .int .i64 b.oad, .int .i64 b.opo, .bool b.st, .bool true]
theorem slotV_len (o : Option Bnd) : (slotV o).length = 9 := by cases o <;> rfl
theorem slotV_one (o : Option Bnd) : (slotV o).all isOne = true := by cases o <;> rfl
theorem slotV_used (o : Option Bnd) : (slotV o)[8]? = some (.bool o.isSome) := by cases o <;> rfl

structure Adr where
  d : Nat
  sl : Nat
  ti : Nat
  si : Nat
  tu : Nat
  su : Nat

def fp (A : Adr) (b : Nat) : Prop := b = A.d ∨ b = A.sl ∨ b = A.ti ∨ b = A.si ∨ b = A.tu ∨ b = A.su

def Adr.ne (A : Adr) : Prop := A.d ≠ A.sl ∧ A.d ≠ A.ti ∧ A.d ≠ A.si ∧ A.d ≠ A.tu ∧ A.d ≠ A.su ∧ A.sl ≠ A.ti ∧ A.sl ≠ A.si ∧ A.sl ≠ A.tu ∧ A.sl ≠ A.su ∧ A.ti ≠ A.tu ∧ A.ti ≠ A.su ∧ A.si ≠ A.tu ∧ A.si ≠ A.su

structure DB (w : World) (A : Adr) (most : Nat) (S : Slots) (Mi Mo : ByteArray → Option Int) : Prop where
  hd : Row w A.d [.slice (some ⟨A.sl, 0, none⟩) most most, .pointer (some ⟨A.ti, 0, none⟩), .pointer (some ⟨A.tu, 0, none⟩), .int .i64 ((live 0 S).length : Int)]
  row : Row w A.sl (S.flatMap slotV)
  len : S.length = most
  mx : most ≤ 4096
  tI : ∃ L, TB w A.ti A.si L most Mi ∧ cnt L = (live 0 S).length
  tO : ∃ L, TB w A.tu A.su L most Mo ∧ cnt L = (live 0 S).length
  good : GoodB S Mi Mo
  ne : A.ne

section
variable {w w' : World} {A : Adr} {most : Nat} {S : Slots} {Mi Mo : ByteArray → Option Int}

theorem DB.fr {F : Nat → Prop} (h : DB w A most S Mi Mo) (hf : Fr8 w w' F) (hs : ∀ b, fp A b → ¬ F b) : DB w' A most S Mi Mo := by
  obtain ⟨L, h1, h2⟩ := h.tI
  obtain ⟨L', h3, h4⟩ := h.tO
  exact ⟨h.hd.fr hf (hs _ (.inl rfl)), h.row.fr hf (hs _ (.inr (.inl rfl))), h.len, h.mx, ⟨L, h1.fr hf (hs _ (.inr (.inr (.inl rfl)))) (hs _ (.inr (.inr (.inr (.inl rfl))))), h2⟩,
    ⟨L', h3.fr hf (hs _ (.inr (.inr (.inr (.inr (.inl rfl)))))) (hs _ (.inr (.inr (.inr (.inr (.inr rfl)))))), h4⟩, h.good, h.ne⟩

theorem DB.ext (h : DB w A most S Mi Mo) (hf : Ext w w') : DB w' A most S Mi Mo := h.fr (hf fun _ => False) (fun _ _ => by simp)

theorem DB.slot (h : DB w A most S Mi Mo) {i : Nat} {o : Option Bnd} (hi : S[i]? = some o) (j : Nat) (hj : j < 9) : w.cell? ⟨A.sl, i * 9 + j, none⟩ = (slotV o)[j]? := by
  rw [h.row.cell, flat_get slotV 9 slotV_len _ _ j hj, hi]; rfl

theorem dready_ok (h : DB w A most S Mi Mo) : c_bind_DB_ready (some ⟨A.d, 0, none⟩) w fun r w' => r = true ∧ w' = w := by
  apply ok_bind_DB_ready
  unfold s_bind_DB_ready
  simp only [Option.isNone_some, cond_true, ex_some, Ld_eq, List.getElem?_cons_zero, List.getElem?_cons_succ, LdV_some, dec_ptr, add_mk, Nat.zero_add, h.hd.cell, Bool.not_false]
  exact ⟨by trivial, by trivial⟩

theorem dfind_ok (h : DB w A most S Mi Mo) (a b c d : Int) (hq : ∀ n ∈ [a, b, c, d], In64 n) :
    c_bind_DB_Find (some ⟨A.d, 0, none⟩) a b c d w fun n t w' => t = (Mi (Bind.keyS [a, b, c, d])).isSome ∧ n = (Mi (Bind.keyS [a, b, c, d])).getD 0 ∧ Ext w w' := by
  apply ok_bind_DB_Find
  unfold s_bind_DB_Find
  refine Al_e fun p w1 r1 _ _ f1 => ?_
  refine cm_bind_DB_ready (dready_ok (h.ext f1)) ?_
  rintro _ w2 ⟨rfl, hw⟩
  subst hw
  have h2 := (h.ext f1).ext (Ext.drew _)
  simp only [Bool.not_true, cond_false, ex_some, Ld_eq, List.getElem?_cons_zero, List.getElem?_cons_succ, LdV_some, dec_int, dec_ptr, add_mk, Nat.zero_add, Nat.add_zero, h2.hd.cell, r1.drew.cell]
  refine cm_bind_innerKey (ikey_ok a b c d hq _) ?_
  rintro _ w3 ⟨rfl, f3⟩
  have h3 := h2.ext f3
  simp only [true_and, List.getElem?_cons_zero, List.getElem?_cons_succ, h3.hd.cell]
  obtain ⟨L, hL, _⟩ := h3.tI
  refine cm_hash_Table_Get (hget_ok hL _ (keyS_size _ (by simp))) ?_
  rintro n t w4 ⟨f4, rfl, rfl⟩
  exact ⟨rfl, rfl, ((f1.trans (Ext.drew _)).trans f3).trans f4⟩

theorem dback_ok (h : DB w A most S Mi Mo) (a b c : Int) (hq : ∀ n ∈ [a, b, c], In64 n) :
    c_bind_DB_Back (some ⟨A.d, 0, none⟩) a b c w fun n t w' => t = (Mo (Bind.keyS [a, b, c])).isSome ∧ n = (Mo (Bind.keyS [a, b, c])).getD 0 ∧ Ext w w' := by
  apply ok_bind_DB_Back
  unfold s_bind_DB_Back
  refine Al_e fun p w1 r1 _ _ f1 => ?_
  refine cm_bind_DB_ready (dready_ok (h.ext f1)) ?_
  rintro _ w2 ⟨rfl, hw⟩
  subst hw
  have h2 := (h.ext f1).ext (Ext.drew _)
  simp only [Bool.not_true, cond_false, ex_some, Ld_eq, List.getElem?_cons_zero, List.getElem?_cons_succ, LdV_some, dec_int, dec_ptr, add_mk, Nat.zero_add, Nat.add_zero, h2.hd.cell, r1.drew.cell]
  refine cm_bind_outerKey (okey_ok a b c hq _) ?_
  rintro _ w3 ⟨rfl, f3⟩
  have h3 := h2.ext f3
  simp only [true_and, List.getElem?_cons_zero, List.getElem?_cons_succ, h3.hd.cell]
  obtain ⟨L, hL, _⟩ := h3.tO
  refine cm_hash_Table_Get (hget_ok hL _ (keyS_size _ (by simp))) ?_
  rintro n t w4 ⟨f4, rfl, rfl⟩
  exact ⟨rfl, rfl, ((f1.trans (Ext.drew _)).trans f3).trans f4⟩

theorem dlen_ok (h : DB w A most S Mi Mo) : c_bind_DB_Len (some ⟨A.d, 0, none⟩) w fun n w' => n = ((live 0 S).length : Int) ∧ w' = w := by
  apply ok_bind_DB_Len
  unfold s_bind_DB_Len
  refine cm_bind_DB_ready (dready_ok h) ?_
  rintro _ w2 ⟨rfl, hw⟩
  subst hw
  simp only [Bool.not_true, cond_false, ex_some, Ld_eq, List.getElem?_cons_zero, List.getElem?_cons_succ, LdV_some, dec_int, add_mk, Nat.zero_add, h.hd.cell]
  exact ⟨by trivial, by trivial⟩

theorem freeN_take : ∀ {S : Slots} {i : Nat}, freeN S = some i ↔ S[i]? = some none ∧ ∀ j, j < i → ∃ b, S[j]? = some (some b)
  | [], i => by simp [freeN]
  | none :: r, i => by
    simp only [freeN, Option.some.injEq]
    constructor
    · rintro rfl; exact ⟨rfl, by omega⟩
    · rintro ⟨_, h2⟩
      cases i with
      | zero => rfl
      | succ i => obtain ⟨b, hb⟩ := h2 0 (by omega); simp at hb
  | some c :: r, i => by
    simp only [freeN, Option.map_eq_some_iff]
    constructor
    · rintro ⟨k, hk, rfl⟩
      obtain ⟨h1, h2⟩ := freeN_take.1 hk
      refine ⟨by simpa using h1, fun j hj => ?_⟩
      cases j with
      | zero => exact ⟨c, rfl⟩
      | succ j => simpa using h2 j (by omega)
    · rintro ⟨h1, h2⟩
      cases i with
      | zero => simp at h1
      | succ i => exact ⟨i, freeN_take.2 ⟨by simpa using h1, fun j hj => by simpa using h2 (j + 1) (by omega)⟩, rfl⟩

theorem freeN_all : ∀ {S : Slots}, (∀ j, j < S.length → ∃ b, S[j]? = some (some b)) → freeN S = none
  | [], _ => rfl
  | none :: r, h => by obtain ⟨b, hb⟩ := h 0 (by simp); simp at hb
  | some c :: r, h => by
    simp only [freeN, Option.map_eq_none_iff]
    exact freeN_all fun j hj => by simpa using h (j + 1) (by simp; omega)

theorem dfree_ok (h : DB w A most S Mi Mo) : c_bind_DB_free (some ⟨A.d, 0, none⟩) w fun n t w' => w' = w ∧ t = (freeN S).isSome ∧ n = (((freeN S).getD 0 : Nat) : Int) := by
  apply ok_bind_DB_free
  unfold s_bind_DB_free
  have hm := h.mx
  have hl := h.len
  simp only [ex_some, Ld_eq, List.getElem?_cons_zero, LdV_some, dec_slice, h.hd.cell]
  refine LoopP_inv (fun st W => W = w ∧ ∃ i : Nat, i ≤ most ∧ st.1 = (i : Int) ∧ ∀ j, j < i → ∃ b, S[j]? = some (some b)) (fun st _ => most - st.1.toNat) ⟨rfl, 0, by omega, rfl, by omega⟩ ?_
  rintro ⟨x, ⟨⟩⟩ W ⟨rfl, i, hi, rfl, hp⟩ next hnext
  by_cases hlt : i < most
  · have hlt' : ((i : Int) < (most : Int)) := by omega
    have hS : S[i]? = some S[i] := List.getElem?_eq_getElem (by omega)
    generalize S[i] = o at hS
    simp only [hlt', decide_true, cond_true, List.getElem?_cons_zero, LdV_some, dec_slice, dec_bool, AtIx_some, add_mk, Nat.zero_add, h.hd.cell, Int.toNat_natCast, h.slot hS 8 (by omega), slotV_used]
    refine ⟨by omega, by trivial, ?_⟩
    cases o with
    | none =>
      have hf := freeN_take.2 ⟨hS, hp⟩
      simp only [Option.isSome_none, Bool.not_false, cond_true, hf]
      exact ⟨by trivial, rfl, rfl⟩
    | some b =>
      simp only [Option.isSome_some, Bool.not_true, cond_false]
      rw [wrap_i64 (by omega) (by omega)]
      refine hnext _ _ ⟨rfl, i + 1, by omega, by simp, fun j hj => ?_⟩ (by simp only; omega)
      by_cases hji : j < i
      · exact hp j hji
      · have : j = i := by omega
        subst this; exact ⟨b, hS⟩
  · have hlt' : ¬ ((i : Int) < (most : Int)) := by omega
    simp only [hlt', decide_false, cond_false]
    have hf := freeN_all (S := S) fun j hj => hp j (by omega)
    rw [hf]
    exact ⟨by trivial, rfl, rfl⟩

theorem flat_set9 {S : Slots} {i : Nat} (hi : i < S.length) (o : Option Bnd) : (S.flatMap slotV).take (i * 9) ++ slotV o ++ (S.flatMap slotV).drop (i * 9 + 9) = (S.set i o).flatMap slotV := by
  have e1 : (S.flatMap slotV).take (i * 9) = (S.take i).flatMap slotV := by
    have h : S = S.take i ++ S.drop i := (List.take_append_drop i S).symm
    have hl : ((S.take i).flatMap slotV).length = i * 9 := by rw [flat_len slotV 9 slotV_len]; simp; omega
    conv => lhs; rw [h, List.flatMap_append]
    rw [← hl]; simp
  have e2 : (S.flatMap slotV).drop (i * 9 + 9) = (S.drop (i + 1)).flatMap slotV := by
    have h : S = S.take (i + 1) ++ S.drop (i + 1) := (List.take_append_drop (i + 1) S).symm
    have hl : ((S.take (i + 1)).flatMap slotV).length = i * 9 + 9 := by rw [flat_len slotV 9 slotV_len]; simp; omega
    conv => lhs; rw [h, List.flatMap_append]
    rw [← hl]; simp
  rw [e1, e2, List.set_eq_take_append_cons_drop, if_pos hi, List.flatMap_append, List.flatMap_cons, List.append_assoc]

/-- A slot is written. -/
theorem St_slot (h : Row w A.sl (S.flatMap slotV)) {i : Nat} (hi : i < S.length) (o : Option Bnd) {K : World → Prop} (hK : ∀ w', Row w' A.sl ((S.set i o).flatMap slotV) → Fr8 w w' (· = A.sl) → w'.heap.size = w.heap.size → K w') : StN (slotV o) w ⟨A.sl, i * 9, none⟩ 0 K := by
  refine StN_row (slotV o) w _ (i * 9) 0 h (fun v hv => List.all_eq_true.1 (slotV_one o) v hv) ?_ fun w1 r1 f1 z1 => ?_
  · rw [slotV_len, flat_len slotV 9 slotV_len]; omega
  · rw [Nat.add_zero, slotV_len, flat_set9 hi] at r1
    exact hK w1 r1 (f1 _ rfl) z1

def addS (S : Slots) (Mi Mo : ByteArray → Option Int) (b : Bnd) : Int × Int :=
  if (Mi (Bind.keyS b.i)).isSome || (Mo (Bind.keyS b.o)).isSome then (0, 9) else match freeN S with
    | none => (0, 7)
    | some i => ((i : Int), 0)

theorem dadd_ok (h : DB w A most S Mi Mo) (b : Bnd) (hb : b.ok) (hlt : ∀ x, fp A x → x < w.heap.size) :
    c_bind_DB_Add (some ⟨A.d, 0, none⟩) b.sw b.pr b.ad b.po b.opr b.oad b.opo b.st w fun n e w' => (n, e) = addS S Mi Mo b ∧ Fr8 w w' (fp A) ∧
      ∃ A' S' Mi' Mo', DB w' A' most S' Mi' Mo' ∧ A'.d = A.d ∧ (∀ x, fp A' x → fp A x ∨ w.heap.size ≤ x) ∧ (∀ x, fp A' x → x < w'.heap.size) ∧ S' = (if (addS S Mi Mo b).2 = 0 then S.set (addS S Mi Mo b).1.toNat (some b) else S) := by
  apply ok_bind_DB_Add
  unfold s_bind_DB_Add
  refine Al_e fun p w1 r1 e1 z1 f1 => ?_
  refine cm_bind_DB_ready (dready_ok (h.ext f1)) ?_
  rintro _ w2 ⟨rfl, hw⟩
  subst hw
  simp only [Bool.not_true, cond_false, cond_true, ex_some, Ld_eq, List.getElem?_cons_zero, List.getElem?_cons_succ, LdV_some, dec_int, add_mk, Nat.zero_add, Nat.add_zero, r1.cell]
  refine cm_bind_DB_Find (dfind_ok (h.ext f1) _ _ _ _ hb.1) ?_
  rintro n2 t2 w3 ⟨ht2, _, f3⟩
  simp only [List.getElem?_cons_zero, List.getElem?_cons_succ, LdV_some, dec_int, (r1.ext f3).cell]
  refine cm_bind_DB_Back (dback_ok ((h.ext f1).ext f3) _ _ _ hb.2) ?_
  rintro n4 t4 w4 ⟨ht4, _, f4⟩
  have ht2 : t2 = (Mi (Bind.keyS b.i)).isSome := ht2
  have ht4 : t4 = (Mo (Bind.keyS b.o)).isSome := ht4
  have y4 := f3.trans f4
  have x4 : Ext w w4 := f1.trans y4
  have h4 := h.ext x4
  have twice : (t2 || t4) = true → ((0 : Int), (9 : Int)) = addS S Mi Mo b ∧ Fr8 w w4 (fp A) ∧ ∃ A' S' Mi' Mo', DB w4 A' most S' Mi' Mo' ∧ A'.d = A.d ∧ (∀ x, fp A' x → fp A x ∨ w.heap.size ≤ x) ∧ (∀ x, fp A' x → x < w4.heap.size) ∧ S' = (if (addS S Mi Mo b).2 = 0 then S.set (addS S Mi Mo b).1.toNat (some b) else S) := by
    intro ht
    have e : addS S Mi Mo b = (0, 9) := by unfold addS; rw [← ht2, ← ht4, if_pos ht]
    rw [e]
    exact ⟨rfl, x4 _, A, S, Mi, Mo, h4, rfl, fun x hx => .inl hx, fun x hx => by have := hlt x hx; have := x4.size; omega, by rw [if_neg (by simp)]⟩
  cases htt : t2 with
  | true => simp only [cond_true]; exact twice (by rw [htt]; rfl)
  | false =>
  cases htt4 : t4 with
  | true => simp only [cond_true, cond_false]; exact twice (by rw [htt, htt4]; rfl)
  | false =>
  rw [htt] at ht2
  rw [htt4] at ht4
  simp only [cond_false]
  refine cm_bind_DB_free (dfree_ok h4) ?_
  rintro n5 t5 w5 ⟨hw, ht5, hn5⟩
  subst hw
  cases hfr : freeN S with
  | none =>
    rw [hfr] at ht5
    subst ht5
    simp only [Option.isSome_none, Bool.not_false, cond_true]
    have e : addS S Mi Mo b = (0, 7) := by unfold addS; rw [← ht2, ← ht4, hfr]; rfl
    rw [e]
    exact ⟨rfl, x4 _, A, S, Mi, Mo, h4, rfl, fun x hx => .inl hx, fun x hx => by have := hlt x hx; have := x4.size; omega, by rw [if_neg (by simp)]⟩
  | some i =>
    rw [hfr] at ht5 hn5
    subst ht5
    have hn5 : n5 = (i : Int) := hn5
    subst hn5
    have e : addS S Mi Mo b = ((i : Int), 0) := by unfold addS; rw [← ht2, ← ht4, hfr]; rfl
    rw [e]
    obtain ⟨g1, g2, g3, g4, g5, g6, g7⟩ := Bind.freeN_some 0 hfr
    have hm := h.mx
    have hl := h.len
    have h5 := h4.ext (Ext.drew _)
    have r5 := (r1.ext y4).drew
    simp only [Option.isSome_some, Bool.not_true, cond_false, List.getElem?_cons_zero, List.getElem?_cons_succ, LdV_some, dec_slice, dec_int, dec_bool, AtIx_some, add_mk, Nat.zero_add, h5.hd.cell, r5.cell, Int.toNat_natCast]
    refine ⟨by omega, by omega, ?_⟩
    refine St_slot h5.row g1 (some b) fun w6 row6 f6 z6 => ?_
    obtain ⟨n1, n2, n3, n4, n5, n6, n7, n8, n9, n10, n11, n12, n13⟩ := h.ne
    have hp : ∀ x, fp A x → x ≠ p := fun x hx => by have := hlt x hx; omega
    have hpd := hp _ (.inl rfl)
    have hps := hp _ (.inr (.inl rfl))
    have hd6 := (h5.hd.fr f6 n1).drew
    have r6 := (r5.fr f6 (Ne.symm hps)).drew
    simp only [List.getElem?_cons_zero, List.getElem?_cons_succ, LdV_some, dec_int, dec_ptr, hd6.cell, r6.cell]
    refine cm_bind_innerKey (ikey_ok _ _ _ _ hb.1 _) ?_
    rintro _ w7 ⟨rfl, f7⟩
    have hd7 := hd6.ext f7
    have r7 := r6.ext f7
    simp only [true_and, List.getElem?_cons_zero, List.getElem?_cons_succ, hd7.cell]
    obtain ⟨LI, tI, cI⟩ := h5.tI
    obtain ⟨LO, tO, cO⟩ := h5.tO
    have f67 : Fr8 w5.drew w7 (· = A.sl) := (f6.ext (Ext.drew _)).ext f7
    have tI7 := tI.fr f67 (Ne.symm n6) (Ne.symm n7)
    have tO7 := tO.fr f67 (Ne.symm n8) (Ne.symm n9)
    have hMi : Mi (Bind.keyS b.i) = none := by cases hx : Mi (Bind.keyS b.i) with
      | none => rfl
      | some v => rw [hx] at ht2; cases ht2
    have hMo : Mo (Bind.keyS b.o) = none := by cases hx : Mo (Bind.keyS b.o) with
      | none => rfl
      | some v => rw [hx] at ht4; cases ht4
    have z7 := f67.size
    have hdrz : w5.drew.heap.size = w5.heap.size := rfl
    have x4z := x4.size
    refine cm_hash_Table_Put (hput_ok tI7 (Bind.keyS b.i) (i : Int) (keyS_size _ (by simp [Bnd.i]))) ?_
    rintro e8 w8 (⟨rfl, hlt8, s8, L8, t8, c8, f8, hs8⟩ | ⟨_, _, hbad, _⟩)
    rotate_left
    · exfalso; rw [cI] at hbad; omega
    have hd8 := (hd7.fr f8 (by rintro (h | h); exact n2 h; exact n3 h)).drew
    have r8 : Row w8.drew p _ := (r7.fr f8 (by rintro (h | h); exact hp _ (.inr (.inr (.inl rfl))) h.symm; exact hp _ (.inr (.inr (.inr (.inl rfl)))) h.symm)).drew
    simp only [List.getElem?_cons_zero, List.getElem?_cons_succ, LdV_some, dec_int, dec_ptr, hd8.cell, r8.cell]
    refine cm_bind_outerKey (okey_ok _ _ _ hb.2 _) ?_
    rintro _ w9 ⟨rfl, f9⟩
    have hd9 := hd8.ext f9
    simp only [true_and, List.getElem?_cons_zero, List.getElem?_cons_succ, hd9.cell]
    have hs8' : s8 ≠ A.tu ∧ s8 ≠ A.su ∧ s8 ≠ A.d ∧ s8 ≠ A.sl := by
      have q1 := hlt A.tu (.inr (.inr (.inr (.inr (.inl rfl)))))
      have q2 := hlt A.su (.inr (.inr (.inr (.inr (.inr rfl)))))
      have q3 := hlt A.d (.inl rfl)
      have q4 := hlt A.sl (.inr (.inl rfl))
      rcases hs8 with h8 | h8
      · rw [h8]; exact ⟨n12, n13, Ne.symm n3, Ne.symm n7⟩
      · have z47 : w.heap.size ≤ s8 := Nat.le_trans x4z (Nat.le_trans z7 h8)
        exact ⟨fun h => by rw [h] at z47; exact Nat.lt_irrefl _ (Nat.lt_of_lt_of_le q1 z47), fun h => by rw [h] at z47; exact Nat.lt_irrefl _ (Nat.lt_of_lt_of_le q2 z47), fun h => by rw [h] at z47; exact Nat.lt_irrefl _ (Nat.lt_of_lt_of_le q3 z47), fun h => by rw [h] at z47; exact Nat.lt_irrefl _ (Nat.lt_of_lt_of_le q4 z47)⟩
    have f89 : Fr8 w7 w9 (fun x => x = A.ti ∨ x = A.si) := (f8.ext (Ext.drew _)).ext f9
    have tO9 := tO7.fr f89 (by rintro (h | h); exact n10 h.symm; exact n12 h.symm) (by rintro (h | h); exact n11 h.symm; exact n13 h.symm)
    have tI9 := (t8.frn (Ext.drew w8)).frn f9
    have z8 := f8.size
    have z9 := f9.size
    have hdrz8 : w8.drew.heap.size = w8.heap.size := rfl
    refine cm_hash_Table_Put (hput_ok tO9 (Bind.keyS b.o) (i : Int) (keyS_size _ (by simp [Bnd.o]))) ?_
    rintro e10 w10 (⟨rfl, hlt10, s10, L10, t10, c10, f10, hs10⟩ | ⟨_, _, hbad, _⟩)
    rotate_left
    · exfalso; rw [cO] at hbad; omega
    have hs10' : s10 ≠ A.ti ∧ s10 ≠ s8 ∧ s10 ≠ A.d ∧ s10 ≠ A.sl := by
      have q1 := hlt A.ti (.inr (.inr (.inl rfl)))
      have q2 := hlt A.su (.inr (.inr (.inr (.inr (.inr rfl)))))
      have q3 := hlt A.d (.inl rfl)
      have q4 := hlt A.sl (.inr (.inl rfl))
      have q5 : s8 < w9.heap.size := by
        have : s8 < w8.heap.size := by
          by_cases hL : L8 = []
          · rw [t8.nils hL]; exact t8.ht.hd.lt
          · exact (t8.ht.row hL).lt
        exact Nat.lt_of_lt_of_le this z9
      rcases hs10 with h10 | h10
      · rw [h10]; exact ⟨Ne.symm n11, Ne.symm hs8'.2.1, Ne.symm n5, Ne.symm n9⟩
      · have z49 : w.heap.size ≤ s10 := Nat.le_trans x4z (Nat.le_trans z7 (Nat.le_trans z8 (Nat.le_trans z9 h10)))
        exact ⟨fun h => by rw [h] at z49; exact Nat.lt_irrefl _ (Nat.lt_of_lt_of_le q1 z49), fun h => by rw [h] at h10; exact Nat.lt_irrefl _ (Nat.lt_of_lt_of_le q5 h10), fun h => by rw [h] at z49; exact Nat.lt_irrefl _ (Nat.lt_of_lt_of_le q3 z49), fun h => by rw [h] at z49; exact Nat.lt_irrefl _ (Nat.lt_of_lt_of_le q4 z49)⟩
    have hd10 := hd9.fr f10 (by rintro (h | h); exact n4 h; exact n5 h)
    simp only [List.getElem?_cons_zero, List.getElem?_cons_succ, LdV_some, dec_int, hd10.cell]
    have hll := Bind.live_len_le S 0
    rw [wrap_i64 (by omega) (by omega)]
    refine St_row hd10 rfl (by simp) fun w11 hd11 f11 z11 => ?_
    simp only [List.set_cons_zero, List.set_cons_succ] at hd11
    have f11d := f11 (· = A.d) rfl
    have hlen' : (live 0 (S.set i (some b))).length = (live 0 S).length + 1 := by
      rw [g7 b]
      simp only [List.length_append, List.length_cons, List.length_take, List.length_drop]; omega
    have tI11 : TB w11 A.ti s8 L8 most (Go.Proofs.upd Mi (Bind.keyS b.i) (some (i : Int))) := (tI9.fr f10 (by rintro (h | h); exact n10 h; exact n11 h) (by rintro (h | h); exact hs8'.1 h; exact hs8'.2.1 h)).fr f11d (Ne.symm n2) hs8'.2.2.1
    have tO11 : TB w11 A.tu s10 L10 most (Go.Proofs.upd Mo (Bind.keyS b.o) (some (i : Int))) := t10.fr f11d (Ne.symm n4) hs10'.2.2.1
    have row11 : Row w11 A.sl ((S.set i (some b)).flatMap slotV) := ((((row6.ext (Ext.drew _)).ext f7).fr f89 (by rintro (h | h); exact n6 h; exact n7 h)).fr f10 (by rintro (h | h); exact n8 h; exact n9 h)).fr f11d (Ne.symm n1)
    have zb : w5.drew.heap.size ≤ w7.heap.size := f67.size
    have ftot : Fr8 w w11 (fp A) := by
      have q1 : Fr8 w w7 (fp A) := ((x4.trans (Ext.drew w5)) _).trans f67 fun x _ hx => .inr (.inl hx)
      have q2 : Fr8 w w9 (fp A) := q1.trans f89 fun x _ hx => by
        rcases hx with hx | hx
        · exact .inr (.inr (.inl hx))
        · exact .inr (.inr (.inr (.inl hx)))
      have q3 : Fr8 w w10 (fp A) := q2.trans f10 fun x _ hx => by
        rcases hx with hx | hx
        · exact .inr (.inr (.inr (.inr (.inl hx))))
        · exact .inr (.inr (.inr (.inr (.inr hx))))
      exact q3.trans f11d fun x _ hx => .inl hx
    have zt := ftot.size
    have eu : ∀ M k v, Go.Proofs.upd M k v = Gp.Bind.upd M k v := fun _ _ _ => rfl
    rw [eu] at tI11 tO11
    have db : DB w11 ⟨A.d, A.sl, A.ti, s8, A.tu, s10⟩ most (S.set i (some b)) (Gp.Bind.upd Mi (Bind.keyS b.i) (some (i : Int))) (Gp.Bind.upd Mo (Bind.keyS b.o) (some (i : Int))) := by
      refine ⟨?_, row11, by rw [List.length_set]; exact hl, hm, ⟨L8, tI11, ?_⟩, ⟨L10, tO11, ?_⟩, h.good.add g2 hb hMi hMo, ?_⟩
      · rw [hlen']; simpa using hd11
      · rw [c8, hlen', hMi, cI]; rfl
      · rw [c10, hlen', hMo, cO]; rfl
      · exact ⟨n1, n2, Ne.symm hs8'.2.2.1, n4, Ne.symm hs10'.2.2.1, n6, Ne.symm hs8'.2.2.2, n8, Ne.symm hs10'.2.2.2, n10, Ne.symm hs10'.1, hs8'.1, Ne.symm hs10'.2.1⟩
    refine ⟨ftot, _, _, _, _, db, rfl, ?_, ?_, by simp⟩
    · intro x hx
      rcases hx with hx | hx | hx | hx | hx | hx
      · exact .inl (.inl hx)
      · exact .inl (.inr (.inl hx))
      · exact .inl (.inr (.inr (.inl hx)))
      · have hx : x = s8 := hx
        rcases hs8 with h8 | h8
        · exact .inl (.inr (.inr (.inr (.inl (hx.trans h8)))))
        · right; rw [hx]; exact Nat.le_trans x4z (Nat.le_trans z7 h8)
      · exact .inl (.inr (.inr (.inr (.inr (.inl hx)))))
      · have hx : x = s10 := hx
        rcases hs10 with h10 | h10
        · exact .inl (.inr (.inr (.inr (.inr (.inr (hx.trans h10))))))
        · right; rw [hx]; exact Nat.le_trans x4z (Nat.le_trans z7 (Nat.le_trans z8 (Nat.le_trans z9 h10)))
    · intro x hx
      have tlt : ∀ {w0 : World} {b s : Nat} {L : List Ent} {m : Int} {M : ByteArray → Option Int}, TB w0 b s L m M → s < w0.heap.size := by
        intro w0 b s L m M t
        by_cases hL : L = []
        · rw [t.nils hL]; exact t.ht.hd.lt
        · exact (t.ht.row hL).lt
      have lt : ∀ y, fp A y → y < w11.heap.size := fun y hy => Nat.lt_of_lt_of_le (hlt y hy) zt
      rcases hx with hx | hx | hx | hx | hx | hx
      · exact lt x (.inl hx)
      · exact lt x (.inr (.inl hx))
      · exact lt x (.inr (.inr (.inl hx)))
      · have hx : x = s8 := hx
        rw [hx]; exact tlt tI11
      · exact lt x (.inr (.inr (.inr (.inr (.inl hx)))))
      · have hx : x = s10 := hx
        rw [hx]; exact tlt tO11
end
end Go.Proofs
