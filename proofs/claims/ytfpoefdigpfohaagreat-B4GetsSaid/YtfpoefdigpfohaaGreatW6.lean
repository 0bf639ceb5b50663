import Derived.Test.YtfpoefdigpfohaaGreatG32
import Derived.Test.YtfpoefdigpfohaaGreatW4
import Derived.Test.YtfpoefdigpfohaaGreatW3
section
namespace Gp.V4
def dK : Nat -> Nat -> List UInt8
  | 0, _ => []
  | k + 1, n => UInt8.ofNat (n / 256 ^ k) :: dK k n
def fF (l : List UInt8) : Nat := l.foldl (fun n b => n * 256 + b.toNat) 0
theorem aP (k n : Nat) : (dK k n).length = k := by
  induction k with
  | zero => rfl
  | succ k ih => simp [dK, ih]
theorem U8 (l : List UInt8) : ∀ n : Nat, l.foldl (fun n b => n * 256 + b.toNat) n = n * 256 ^ l.length + fF l := by
  induction l with
  | nil => intro n; simp [fF]
  | cons b l ih =>
    intro n
    simp only [List.foldl_cons, fF, List.length_cons]
    rw [ih, ih (0 * 256 + b.toNat)]
    rw [Nat.pow_succ, Nat.add_mul, Nat.add_mul, <- Nat.mul_assoc, Nat.mul_right_comm]
    omega
theorem DF (b : UInt8) (l : List UInt8) : fF (b :: l) = b.toNat * 256 ^ l.length + fF l := by
  show (b :: l).foldl _ 0 = _
  rw [List.foldl_cons, U8]; simp
theorem Jq (l : List UInt8) : fF l < 256 ^ l.length := by
  induction l with
  | nil => simp [fF]
  | cons b l ih =>
    rw [DF, List.length_cons, Nat.pow_succ]
    have := b.toNat_lt
    have h2 : b.toNat * 256 ^ l.length <= 255 * 256 ^ l.length := Nat.mul_le_mul_right _ (by omega)
    omega
theorem qW (k n : Nat) : fF (dK k n) = n % 256 ^ k := by
  induction k with
  | zero => simp [dK, fF, Nat.mod_one]
  | succ k ih =>
    rw [dK, DF, aP, ih]
    have e : (UInt8.ofNat (n / 256 ^ k)).toNat = n / 256 ^ k % 256 := by simp
    rw [e, Nat.pow_succ, Nat.mod_mul, Nat.mul_comm (256 ^ k), Nat.add_comm]
def tot : List UInt8 -> Nat
  | [] => 0
  | [a] => a.toNat * 256
  | a :: b :: r => a.toNat * 256 + b.toNat + tot r
theorem Jj : ∀ l : List UInt8, tot l <= 65535 * l.length
  | [] => by simp [tot]
  | [a] => by have := a.toNat_lt; simp [tot]; omega
  | a :: b :: r => by
    have := a.toNat_lt
    have := b.toNat_lt
    have := Jj r
    simp only [tot, List.length_cons]; omega
theorem BL : ∀ (l m : List UInt8), l.length % 2 = 0 -> tot (l ++ m) = tot l + tot m
  | [], m, _ => by simp [tot]
  | [a], m, h => by simp at h
  | a :: b :: r, m, h => by
    simp only [List.cons_append, tot]
    rw [BL r m (by simp at h; omega)]; omega
def fold (n : Nat) : Nat := if n = 0 then 0 else (n - 1) % 65535 + 1
theorem Ov (n : Nat) : fold n < 65536 := by unfold fold; split <;> omega
theorem D6 {n : Nat} (h : n < 65536) : fold n = n := by unfold fold; split <;> omega
theorem Gi {n : Nat} (h : 65535 < n) : fold (n % 65536 + n / 65536) = fold n := by
  unfold fold
  rw [if_neg (by omega), if_neg (by omega)]
  omega
theorem Qz (t : Nat) : fold (t + (65535 - fold t)) = 65535 := by
  unfold fold
  by_cases h : t = 0
  · subst h; simp
  · rw [if_neg h, if_neg (by omega)]; omega
structure dL where
  tos : Int
  id : Int
  off : Int
  ttl : Int
  proto : Int
  src : Int
  dst : Int
  df : Bool
  mf : Bool
  opts : List UInt8
  data : List UInt8
deriving DecidableEq
def dL.zero : dL := ⟨0, 0, 0, 0, 0, 0, 0, false, false, [], []⟩
def iQ (k : Int) : Prop := 1 <= k ∧ k <= 4
instance (k : Int) : Decidable (iQ k) := inferInstanceAs (Decidable (_ ∧ _))
def aU (n k : Int) : Prop := iQ k ∧ 0 <= n ∧ n < 256 ^ k.toNat
instance (n k : Int) : Decidable (aU n k) := inferInstanceAs (Decidable (_ ∧ _))
def eU (n : Int) : Prop := 0 <= n ∧ n < 4294967296
instance (n : Int) : Decidable (eU n) := inferInstanceAs (Decidable (_ ∧ _))
def dL.fine (p : dL) : Prop := (aU p.tos 1 ∧ aU p.ttl 1 ∧ aU p.proto 1 ∧ aU p.id 2) ∧ (eU p.src ∧ eU p.dst) ∧
  (0 <= p.off ∧ p.off <= 65528 ∧ Int.tmod p.off 8 = 0 ∧ (p.mf = true -> p.data.length % 8 = 0)) ∧ p.opts.length <= 40 ∧ p.opts.length % 4 = 0
instance (p : dL) : Decidable p.fine := inferInstanceAs (Decidable (_ ∧ _))
def dL.short (p : dL) : Prop := 20 + p.opts.length + p.data.length <= 65535 ∧ p.off <= 65535 - (p.data.length : Int)
instance (p : dL) : Decidable p.short := inferInstanceAs (Decidable (_ ∧ _))
def dL.check (p : dL) : Int := if p.fine then if p.short then 0 else 6 else 1
def dL.bits (p : dL) : Nat := p.off.toNat / 8 + (if p.df then 16384 else 0) + (if p.mf then 8192 else 0)
def dL.head (p : dL) (s : Nat) : List UInt8 :=
  dK 1 (64 + (20 + p.opts.length) / 4) ++ dK 1 p.tos.toNat ++ dK 2 (20 + p.opts.length + p.data.length) ++ dK 2 p.id.toNat ++ dK 2 p.bits ++ dK 1 p.ttl.toNat ++ dK 1 p.proto.toNat ++ dK 2 s ++ dK 4 p.src.toNat ++ dK 4 p.dst.toNat ++ p.opts
def dL.sum (p : dL) : Nat := 65535 - fold (tot (p.head 0))
def dL.bytes (p : dL) : List UInt8 := p.head p.sum ++ p.data
theorem qZ (p : dL) (s : Nat) : (p.head s).length = 20 + p.opts.length := by
  simp only [dL.head, List.length_append, aP]
def num (b : List UInt8) (at_ k : Nat) : Nat := fF ((b.drop at_).take k)
def hlen (b : List UInt8) : Nat := ((b[0]?).getD 0).toNat % 16 * 4
def ver (b : List UInt8) : Nat := ((b[0]?).getD 0).toNat / 16
def field (b : List UInt8) : dL :=
  let f := num b 6 2
  ⟨num b 1 1, num b 4 2, (f % 8192 * 8 : Nat), num b 8 1, num b 9 1, num b 12 4, num b 16 4, f / 16384 % 2 == 1, f / 8192 % 2 == 1, (b.take (hlen b)).drop 20, (b.take (num b 2 2)).drop (hlen b)⟩
def fQ (b : List UInt8) (quoted : Bool) : Int :=
  if b.length < 20 then 3
  else if ver b ≠ 4 ∨ hlen b < 20 then 4
  else if b.length < hlen b ∨ (b.length < num b 2 2 ∧ quoted = false) then 3
  else if num b 2 2 < hlen b ∨ 32768 <= num b 6 2 then 4
  else 0
def fA (b : List UInt8) (quoted : Bool) : Int :=
  if fQ b quoted ≠ 0 then fQ b quoted
  else if quoted then 0
  else if fold (tot (b.take (hlen b))) ≠ 65535 then 5
  else if (field b).check ≠ 0 then 4
  else 0
def read (b : List UInt8) (quoted : Bool) : dL := if fA b quoted = 0 then field b else dL.zero
theorem jg {p : dL} (h : p.check = 0) : p.fine ∧ p.short := by
  unfold dL.check at h
  split at h
  · split at h
    · exact ⟨by assumption, by assumption⟩
    · omega
  · omega
theorem mP {n : Int} (h : aU n 1) : 0 <= n ∧ n < 256 := ⟨h.2.1, by have := h.2.2; simpa using this⟩
theorem U3 {n : Int} (h : aU n 2) : 0 <= n ∧ n < 65536 := ⟨h.2.1, by have := h.2.2; simpa using this⟩
theorem head_eq (p : dL) (s : Nat) : p.head s = UInt8.ofNat (64 + (20 + p.opts.length) / 4) :: UInt8.ofNat p.tos.toNat :: UInt8.ofNat ((20 + p.opts.length + p.data.length) / 256) :: UInt8.ofNat (20 + p.opts.length + p.data.length) ::
    UInt8.ofNat (p.id.toNat / 256) :: UInt8.ofNat p.id.toNat :: UInt8.ofNat (p.bits / 256) :: UInt8.ofNat p.bits :: UInt8.ofNat p.ttl.toNat :: UInt8.ofNat p.proto.toNat :: UInt8.ofNat (s / 256) :: UInt8.ofNat s ::
    UInt8.ofNat (p.src.toNat / 16777216) :: UInt8.ofNat (p.src.toNat / 65536) :: UInt8.ofNat (p.src.toNat / 256) :: UInt8.ofNat p.src.toNat ::
    UInt8.ofNat (p.dst.toNat / 16777216) :: UInt8.ofNat (p.dst.toNat / 65536) :: UInt8.ofNat (p.dst.toNat / 256) :: UInt8.ofNat p.dst.toNat :: p.opts := by
  simp [dL.head, dK]
theorem QU (p : dL) {s : Nat} (hs : s < 65536) : tot (p.head s) = tot (p.head 0) + s := by
  rw [head_eq, head_eq]
  simp only [tot, UInt8.toNat_ofNat']
  omega
theorem Py (p : dL) : fold (tot (p.head p.sum)) = 65535 := by
  rw [QU p (by unfold dL.sum; omega)]
  exact Qz _
theorem Ij {p : dL} (h : p.fine) : p.bits < 32768 := by
  obtain ⟨_, _, ⟨h1, h2, h3, _⟩, _⟩ := h
  unfold dL.bits
  split <;> split <;> omega
theorem RS {p : dL} (h : p.fine) : ((p.bits % 8192 * 8 : Nat) : Int) = p.off ∧ (p.bits / 16384 % 2 == 1) = p.df ∧ (p.bits / 8192 % 2 == 1) = p.mf := by
  obtain ⟨_, _, ⟨h1, h2, h3, _⟩, _⟩ := h
  rw [Int.tmod_eq_emod_of_nonneg h1] at h3
  unfold dL.bits
  refine ⟨by split <;> split <;> omega, ?_, ?_⟩
  · cases p.df <;> cases p.mf <;> simp <;> omega
  · cases p.df <;> cases p.mf <;> simp <;> omega
theorem wX {p : dL} (h : p.check = 0) (more : List UInt8) : fA (p.bytes ++ more) false = 0 ∧ field (p.bytes ++ more) = p ∧ hlen (p.bytes ++ more) = 20 + p.opts.length := by
  obtain ⟨hf, hs⟩ := jg h
  have hb := Ij hf
  have hbo := RS hf
  obtain ⟨⟨f1, f2, f3, f4⟩, ⟨r1, r2⟩, ⟨o1, o2, o3, o4⟩, p1, p2⟩ := id hf
  have f1 := mP f1
  have f2 := mP f2
  have f3 := mP f3
  have f4 := U3 f4
  obtain ⟨r11, r12⟩ := r1
  obtain ⟨r21, r22⟩ := r2
  obtain ⟨s1, s2⟩ := hs
  have hsum : p.sum < 65536 := by unfold dL.sum; omega
  have e : p.bytes ++ more = p.head p.sum ++ (p.data ++ more) := by simp [dL.bytes]
  rw [e]
  have hl := qZ p p.sum
  have hh : hlen (p.head p.sum ++ (p.data ++ more)) = 20 + p.opts.length := by
    rw [head_eq]
    simp only [hlen, List.cons_append, List.getElem?_cons_zero, Option.getD_some, UInt8.toNat_ofNat']
    omega
  have hv : ver (p.head p.sum ++ (p.data ++ more)) = 4 := by
    rw [head_eq]
    simp only [ver, List.cons_append, List.getElem?_cons_zero, Option.getD_some, UInt8.toNat_ofNat']
    omega
  have n2 : num (p.head p.sum ++ (p.data ++ more)) 2 2 = 20 + p.opts.length + p.data.length := by
    rw [head_eq]
    simp [num, fF]
    omega
  have n6 : num (p.head p.sum ++ (p.data ++ more)) 6 2 = p.bits := by
    rw [head_eq]
    simp [num, fF]
    omega
  have hfield : field (p.head p.sum ++ (p.data ++ more)) = p := by
    unfold field
    rw [hh, n2, n6]
    have a1 : ((num (p.head p.sum ++ (p.data ++ more)) 1 1 : Nat) : Int) = p.tos := by
      rw [head_eq]; simp [num, fF]; omega
    have a2 : ((num (p.head p.sum ++ (p.data ++ more)) 4 2 : Nat) : Int) = p.id := by
      rw [head_eq]; simp [num, fF]; omega
    have a3 : ((num (p.head p.sum ++ (p.data ++ more)) 8 1 : Nat) : Int) = p.ttl := by
      rw [head_eq]; simp [num, fF]; omega
    have a4 : ((num (p.head p.sum ++ (p.data ++ more)) 9 1 : Nat) : Int) = p.proto := by
      rw [head_eq]; simp [num, fF]; omega
    have a5 : ((num (p.head p.sum ++ (p.data ++ more)) 12 4 : Nat) : Int) = p.src := by
      rw [head_eq]; simp [num, fF]; omega
    have a6 : ((num (p.head p.sum ++ (p.data ++ more)) 16 4 : Nat) : Int) = p.dst := by
      rw [head_eq]; simp [num, fF]; omega
    have a7 : ((p.head p.sum ++ (p.data ++ more)).take (20 + p.opts.length)).drop 20 = p.opts := by
      rw [<- hl, List.take_left', head_eq] <;> simp
    have a8 : ((p.head p.sum ++ (p.data ++ more)).take (20 + p.opts.length + p.data.length)).drop (20 + p.opts.length) = p.data := by
      rw [<- hl, List.take_append, List.drop_append]
      simp
    simp only [a1, a2, a3, a4, a5, a6, a7, a8, hbo]
  refine ⟨?_, hfield, hh⟩
  unfold fA
  have ho : fQ (p.head p.sum ++ (p.data ++ more)) false = 0 := by
    unfold fQ
    rw [hh, hv, n2, n6]
    simp only [List.length_append, hl]
    rw [if_neg (by omega), if_neg (by omega), if_neg (by omega), if_neg (by omega)]
  have ht : (p.head p.sum ++ (p.data ++ more)).take (20 + p.opts.length) = p.head p.sum := by rw [<- hl]; simp
  rw [ho, hh, hfield, ht, Py, h]
  simp
end Gp.V4
end
section
namespace Gp.V4
def pX (a : Int) : Prop := 16777216 <= a ∧ a < 3758096384 ∧ a / 16777216 ≠ 127
instance (a : Int) : Decidable (pX a) := inferInstanceAs (Decidable (_ ∧ _))
def Hu (k : Int) : Prop := (3 <= k ∧ k <= 5) ∨ k = 11 ∨ k = 12
instance (a : Int) : Decidable (Hu a) := inferInstanceAs (Decidable (_ ∨ _))
theorem pX.right {a : Int} (h : pX a) : eU a := ⟨by have := h.1; omega, by have := h.2.1; omega⟩
structure zS where
  kind : Int
  code : Int
  rest : Int
  data : List UInt8
def zS.fine (m : zS) : Prop := aU m.kind 1 ∧ aU m.code 1 ∧ aU m.rest 4
instance (m : zS) : Decidable m.fine := inferInstanceAs (Decidable (_ ∧ _))
def zS.check (m : zS) : Int := if m.fine then if m.data.length <= 65527 then 0 else 6 else 1
def zS.body (m : zS) (s : Nat) : List UInt8 := dK 1 m.kind.toNat ++ dK 1 m.code.toNat ++ dK 2 s ++ dK 4 m.rest.toNat ++ m.data
def zS.sum (m : zS) : Nat := 65535 - fold (tot (m.body 0))
def zS.bytes (m : zS) : List UInt8 := m.body m.sum
theorem Cb (m : zS) (s : Nat) : (m.body s).length = 8 + m.data.length := by
  simp only [zS.body, List.length_append, aP]
theorem Oz (m : zS) (s : Nat) : m.body s = UInt8.ofNat m.kind.toNat :: UInt8.ofNat m.code.toNat :: UInt8.ofNat (s / 256) :: UInt8.ofNat s ::
    UInt8.ofNat (m.rest.toNat / 16777216) :: UInt8.ofNat (m.rest.toNat / 65536) :: UInt8.ofNat (m.rest.toNat / 256) :: UInt8.ofNat m.rest.toNat :: m.data := by
  simp [zS.body, dK]
theorem AA {m : zS} (h : m.check = 0) : m.fine ∧ m.data.length <= 65527 := by
  unfold zS.check at h
  split at h
  · split at h
    · exact ⟨by assumption, by assumption⟩
    · omega
  · omega
def BO (p : dL) : Bool := if p.proto = 1 then (match p.data with | [] => false | b :: _ => !decide (Hu (b.toNat : Int))) else true
def dL.size (p : dL) : Nat := 20 + p.opts.length + p.data.length
def yx (l : List UInt8) : Bool :=
  decide (fA l true = 0) && (decide ((field l).off <= 0) && (decide (pX (field l).src) && (decide (pX (field l).dst) && BO (field l))))
theorem o7 {l : List UInt8} : yx l = true ↔ fA l true = 0 ∧ (field l).off <= 0 ∧ pX (field l).src ∧ pX (field l).dst ∧ BO (field l) = true := by
  simp [yx]
def kS (kind code rest : Int) (l : List UInt8) : zS := ⟨kind, code, rest, l.take (min (field l).size 548)⟩
def iU (from_ kind code rest : Int) (l : List UInt8) : dL := ⟨0, 0, 0, 64, 1, from_, (field l).src, false, false, [], (kS kind code rest l).bytes⟩
def pU (from_ kind code rest : Int) (l : List UInt8) : Int :=
  if yx l = true then if (kS kind code rest l).check = 0 then if (iU from_ kind code rest l).check = 0 then 0 else 1 else 1 else 11
theorem MS {from_ kind code rest : Int} {l : List UInt8} (h : pU from_ kind code rest l = 0) : yx l = true ∧ (kS kind code rest l).check = 0 ∧ (iU from_ kind code rest l).check = 0 := by
  unfold pU at h
  split at h
  · split at h
    · split at h
      · exact ⟨by assumption, by assumption, by assumption⟩
      · omega
    · omega
  · omega
def Cm (from_ kind code rest : Int) (l : List UInt8) : dL := if pU from_ kind code rest l = 0 then iU from_ kind code rest l else dL.zero
theorem KC {p : dL} (h : p.check = 0) : fA p.bytes true = 0 ∧ field p.bytes = p := by
  have hr := wX h []
  rw [List.append_nil] at hr
  refine ⟨?_, hr.2.1⟩
  have h0 := hr.1
  have ho : fQ p.bytes false = 0 := by
    unfold fA at h0
    split at h0
    · contradiction
    · rename_i hx; exact Classical.byContradiction hx
  have ho' : fQ p.bytes true = 0 := by
    unfold fQ at ho ⊢
    split at ho
    · omega
    rename_i c1
    split at ho
    · omega
    rename_i c2
    split at ho
    · omega
    rename_i c3
    split at ho
    · omega
    rename_i c4
    rw [if_neg c1, if_neg c2, if_neg (by simp only [Bool.true_eq_false, and_false, or_false]; exact fun h => c3 (.inl h)), if_neg c4]
  unfold fA
  rw [ho']; simp
theorem DX {l : List UInt8} (h : fQ l true = 0) : 20 <= (field l).size ∧ (field l).size <= l.length := by
  unfold fQ at h
  split at h
  · omega
  split at h
  · omega
  split at h
  · omega
  split at h
  · omega
  simp only [dL.size, field, List.length_drop, List.length_take]
  omega
theorem zN {l : List UInt8} (h : fA l true = 0) : fQ l true = 0 := by
  unfold fA at h
  split at h
  · contradiction
  · rename_i hx; exact Classical.byContradiction hx
end Gp.V4
end
section
namespace Gp.V4
structure dZ where
  tr : Int
  fl : Int
  nx : Int
  hp : Int
  src : List UInt8
  dst : List UInt8
  data : List UInt8
deriving DecidableEq
def Wn : List UInt8 := List.replicate 16 0
def dZ.zero : dZ := ⟨0, 0, 0, 0, Wn, Wn, []⟩
def dZ.fine (p : dZ) : Prop := (aU p.tr 1 ∧ aU p.nx 1 ∧ aU p.hp 1) ∧ 0 <= p.fl ∧ p.fl < 1048576
open Classical in
noncomputable def dZ.check (p : dZ) : Int := if p.fine then if p.data.length <= 65535 then 0 else 6 else 1
def dZ.ok (p : dZ) : Prop := p.src.length = 16 ∧ p.dst.length = 16
theorem fZ {p : dZ} (h : p.check = 0) : p.fine ∧ p.data.length <= 65535 := by
  unfold dZ.check at h
  split at h
  · split at h
    · exact ⟨by assumption, by assumption⟩
    · omega
  · omega
def dZ.first (p : dZ) : Nat := 1610612736 + p.tr.toNat * 1048576 + p.fl.toNat
def dZ.head (p : dZ) : List UInt8 := dK 4 p.first ++ dK 2 p.data.length ++ [UInt8.ofNat p.nx.toNat, UInt8.ofNat p.hp.toNat]
def dZ.bytes (p : dZ) : List UInt8 := p.head ++ (p.src ++ (p.dst ++ p.data))
theorem rE (p : dZ) : p.head.length = 8 := by simp [dZ.head, aP]
theorem lI {p : dZ} (h : p.ok) : p.bytes.length = 40 + p.data.length := by
  simp only [dZ.bytes, List.length_append, rE, h.1, h.2]; omega
def jD (l : List UInt8) (quoted : Bool) : Int :=
  if l.length < 40 then 3 else if num l 0 4 / 268435456 ≠ 6 then 4 else if quoted = false ∧ l.length - 40 < num l 4 2 then 3 else 0
def wR (l : List UInt8) : dZ := ⟨(num l 0 4 / 1048576 % 256 : Nat), (num l 0 4 % 1048576 : Nat), (num l 6 1 : Nat), (num l 7 1 : Nat), (l.drop 8).take 16, (l.drop 24).take 16, (l.drop 40).take (num l 4 2)⟩
theorem qh {a b : List UInt8} {i k : Nat} (h : i + k <= a.length) : num (a ++ b) i k = num a i k := by
  unfold num
  rw [List.drop_append_of_le_length (by omega), List.take_append_of_le_length (by rw [List.length_drop]; omega)]
theorem fP {l : List UInt8} {i k m : Nat} (h : i + k <= m) : num (l.take m) i k = num l i k := by
  unfold num
  rw [List.drop_take, List.take_take]
  congr 2; omega
theorem PL {p : dZ} (h : p.check = 0) (ho : p.ok) {m : Nat} (hm : 40 <= m) : jD (p.bytes.take m) true = 0 ∧ wR (p.bytes.take m) = { p with data := p.data.take (m - 40) } := by
  obtain ⟨⟨⟨f1, f2, f3⟩, f4, f5⟩, f6⟩ := fZ h
  have g1 := mP f1
  have g2 := mP f2
  have g3 := mP f3
  have hh := rE p
  have hb := lI ho
  have fl : p.first < 4294967296 := by unfold dZ.first; omega
  have n0 : num (p.bytes.take m) 0 4 = p.first := by
    rw [fP (by omega), dZ.bytes, qh (by omega), dZ.head, List.append_assoc, qh (by rw [aP]; omega)]
    unfold num
    rw [List.drop_zero, List.take_of_length_le (by rw [aP]; omega), qW]
    exact Nat.mod_eq_of_lt fl
  have n4 : num (p.bytes.take m) 4 2 = p.data.length := by
    rw [fP (by omega), dZ.bytes, qh (by omega), dZ.head, qh (by simp [aP])]
    unfold num
    rw [List.drop_append_of_le_length (by rw [aP]; omega), List.drop_of_length_le (by rw [aP]; omega), List.nil_append, List.take_of_length_le (by rw [aP]; omega), qW]
    exact Nat.mod_eq_of_lt (by omega)
  have one : ∀ (x y : UInt8) (r : List UInt8), num (dK 4 p.first ++ dK 2 p.data.length ++ [x, y]) 6 1 = x.toNat ∧ num (dK 4 p.first ++ dK 2 p.data.length ++ [x, y]) 7 1 = y.toNat := by
    intro x y r
    simp only [dK, List.cons_append, List.nil_append]
    constructor <;> simp [num, fF]
  have n6 : (num (p.bytes.take m) 6 1 : Int) = p.nx := by
    rw [fP (by omega), dZ.bytes, qh (by omega), dZ.head, (one _ _ []).1]
    simp; omega
  have n7 : (num (p.bytes.take m) 7 1 : Int) = p.hp := by
    rw [fP (by omega), dZ.bytes, qh (by omega), dZ.head, (one _ _ []).2]
    simp; omega
  have d8 : p.bytes.drop 8 = p.src ++ (p.dst ++ p.data) := by
    rw [dZ.bytes, List.drop_append_of_le_length (by omega), List.drop_of_length_le (by omega), List.nil_append]
  have d24 : p.bytes.drop 24 = p.dst ++ p.data := by
    rw [show 24 = 8 + 16 from rfl, <- List.drop_drop, d8, List.drop_append_of_le_length (by rw [ho.1]; omega), List.drop_of_length_le (by rw [ho.1]; omega), List.nil_append]
  have d40 : p.bytes.drop 40 = p.data := by
    rw [show 40 = 24 + 16 from rfl, <- List.drop_drop, d24, List.drop_append_of_le_length (by rw [ho.2]; omega), List.drop_of_length_le (by rw [ho.2]; omega), List.nil_append]
  constructor
  · unfold jD
    rw [if_neg (by rw [List.length_take, hb]; omega), n0, if_neg (by unfold dZ.first; omega), if_neg (by simp)]
  · unfold wR
    rw [n0, n4, n6, n7, List.drop_take, List.drop_take, List.drop_take, d8, d24, d40]
    have e1 : (((p.first / 1048576 % 256 : Nat)) : Int) = p.tr := by unfold dZ.first; omega
    have e2 : (((p.first % 1048576 : Nat)) : Int) = p.fl := by unfold dZ.first; omega
    have e3 : ((p.src ++ (p.dst ++ p.data)).take (m - 8)).take 16 = p.src := by
      rw [List.take_take, show min 16 (m - 8) = p.src.length by rw [ho.1]; omega, List.take_left' rfl]
    have e4 : ((p.dst ++ p.data).take (m - 24)).take 16 = p.dst := by
      rw [List.take_take, show min 16 (m - 24) = p.dst.length by rw [ho.2]; omega, List.take_left' rfl]
    have e5 : (p.data.take (m - 40)).take p.data.length = p.data.take (m - 40) := by
      rw [List.take_take]
      by_cases hc : m - 40 <= p.data.length
      · rw [Nat.min_eq_right hc]
      · rw [Nat.min_eq_left (by omega), List.take_of_length_le (Nat.le_refl _), List.take_of_length_le (by omega)]
    rw [e1, e2, e3, e4, e5]
theorem Qv {p : dZ} (h : p.check = 0) (ho : p.ok) : jD p.bytes true = 0 ∧ wR p.bytes = p := by
  have hb := lI ho
  have := PL h ho (m := p.bytes.length) (by omega)
  rw [List.take_length] at this
  refine ⟨this.1, ?_⟩
  rw [this.2, hb, List.take_of_length_le (by omega)]
theorem Sr {l : List UInt8} (h : fA l true = 0) {m : Nat} (hm : hlen l <= m) : fA (l.take m) true = 0 ∧ field (l.take m) = { field l with data := (field l).data.take (m - hlen l) } := by
  have ho := zN h
  unfold fQ at ho
  split at ho
  · omega
  rename_i c1
  split at ho
  · omega
  rename_i c2
  split at ho
  · omega
  rename_i c3
  split at ho
  · omega
  rename_i c4
  simp only [not_or, Nat.not_lt] at c1 c2 c3 c4
  have g0 : ∀ k, 0 < k -> (l.take k)[0]? = l[0]? := fun k hk => by rw [List.getElem?_take]; simp [hk]
  have eh : hlen (l.take m) = hlen l := by unfold hlen; rw [g0 m (by omega)]
  have ev : ver (l.take m) = ver l := by unfold ver; rw [g0 m (by omega)]
  constructor
  · have : fQ (l.take m) true = 0 := by
      unfold fQ
      rw [eh, ev, fP (by omega), fP (by omega)]
      rw [if_neg (by rw [List.length_take]; omega), if_neg (by omega), if_neg (by simp only [Bool.true_eq_false, and_false, or_false, List.length_take]; omega), if_neg (by omega)]
    unfold fA
    rw [this]; simp
  · unfold field
    simp only [eh, fP (show 1 + 1 <= m by omega), fP (show 4 + 2 <= m by omega), fP (show 6 + 2 <= m by omega), fP (show 8 + 1 <= m by omega), fP (show 9 + 1 <= m by omega), fP (show 12 + 4 <= m by omega), fP (show 16 + 4 <= m by omega), fP (show 2 + 2 <= m by omega)]
    have e1 : ((l.take m).take (hlen l)).drop 20 = (l.take (hlen l)).drop 20 := by rw [List.take_take, Nat.min_eq_left hm]
    have e2 : ((l.take m).take (num l 2 2)).drop (hlen l) = ((l.take (num l 2 2)).drop (hlen l)).take (m - hlen l) := by
      rw [List.take_take, Nat.min_comm, <- List.take_take, List.drop_take]
    rw [e1, e2]
structure Told where
  peer : List UInt8
  kind : Int
  code : Int
  rest : Int
  inner : List UInt8
deriving DecidableEq
def Told.zero : Told := ⟨Wn, 0, 0, 0, []⟩
end Gp.V4
end
section
namespace Gp.V4
theorem Rf {from_ kind code rest : Int} {l : List UInt8} (h1 : 0 <= from_ ∧ from_ < 4294967296) (h2 : 0 <= kind ∧ kind < 256) (h3 : 0 <= code ∧ code < 256) (h4 : 0 <= rest ∧ rest < 4294967296) : pU from_ kind code rest l = if yx l = true then 0 else 11 := by
  unfold pU
  split
  · rename_i hm
    obtain ⟨hr, _, hs, _⟩ := o7.1 hm
    have hz := DX (zN hr)
    have hl : (kS kind code rest l).data.length <= 548 := by simp [kS]; omega
    have c1 : (kS kind code rest l).check = 0 := by
      unfold zS.check
      rw [if_pos ⟨⟨⟨by omega, by omega⟩, h2.1, by simpa [kS] using h2.2⟩, ⟨⟨by omega, by omega⟩, h3.1, by simpa [kS] using h3.2⟩, ⟨⟨by omega, by omega⟩, h4.1, by simpa [kS] using h4.2⟩⟩, if_pos (by omega)]
    have hb : (kS kind code rest l).bytes.length = 8 + (kS kind code rest l).data.length := Cb _ _
    have c2 : (iU from_ kind code rest l).check = 0 := by
      unfold dL.check
      rw [if_pos ?_, if_pos ?_]
      · refine ⟨?_, ?_⟩
        · show 20 + 0 + (kS kind code rest l).bytes.length <= 65535
          omega
        · show (0 : Int) <= 65535 - ((kS kind code rest l).bytes.length : Int)
          omega
      · exact ⟨⟨⟨⟨by omega, by omega⟩, by simp [iU], by simp [iU]⟩, ⟨⟨by omega, by omega⟩, by simp [iU], by simp [iU]⟩, ⟨⟨by omega, by omega⟩, by simp [iU], by simp [iU]⟩, ⟨⟨by omega, by omega⟩, by simp [iU], by simp [iU]⟩⟩,
          ⟨⟨h1.1, h1.2⟩, hs.right⟩, ⟨by simp [iU], by simp [iU], by simp [iU], by simp [iU]⟩, by simp [iU], by simp [iU]⟩
    rw [if_pos c1, if_pos c2]
  · rfl
structure Dg (p : dL) (n : Nat) : Prop where
  check : p.check = 0
  off : p.off = 0
  proto : p.proto = 17
  src : pX p.src
  dst : pX p.dst
  opts : p.opts = []
  data : p.data.length = 8 + n
theorem Dg.len {p : dL} {n : Nat} (h : Dg p n) : p.bytes.length = 28 + n := by
  simp only [dL.bytes, List.length_append, qZ, h.opts, List.length_nil, h.data]; omega
theorem Dg.hlen {p : dL} {n : Nat} (h : Dg p n) : V4.hlen p.bytes = 20 := by
  have := (wX h.check []).2.2
  rw [List.append_nil, h.opts] at this
  exact this
theorem Dg.may {p : dL} {n : Nat} (h : Dg p n) {m : Nat} (hm : 20 <= m) : yx (p.bytes.take m) = true ∧ (field (p.bytes.take m)).src = p.src := by
  obtain ⟨r1, r2⟩ := KC h.check
  obtain ⟨q1, q2⟩ := Sr r1 (m := m) (by rw [h.hlen]; exact hm)
  rw [r2] at q2
  refine ⟨o7.2 ⟨q1, ?_, ?_, ?_, ?_⟩, by rw [q2]⟩
  · rw [q2]; show p.off <= 0; rw [h.off]; omega
  · rw [q2]; exact h.src
  · rw [q2]; exact h.dst
  · rw [q2]
    unfold BO
    rw [if_neg (by show ¬ p.proto = 1; rw [h.proto]; omega)]
def nI (own peer l : List UInt8) : dZ := ⟨0, 0, 4, 64, own, peer, l⟩
theorem PU {own peer l : List UInt8} (hl : l.length <= 65535) : (nI own peer l).check = 0 := by
  unfold dZ.check
  rw [if_pos, if_pos (show (nI own peer l).data.length <= 65535 from hl)]
  exact ⟨⟨⟨⟨by omega, by omega⟩, by simp [nI], by simp [nI]⟩, ⟨⟨by omega, by omega⟩, by simp [nI], by simp [nI]⟩, ⟨⟨by omega, by omega⟩, by simp [nI], by simp [nI]⟩⟩, by simp [nI], by simp [nI]⟩
end Gp.V4
end
section
namespace Gp.V4
def dX (most size : Nat) (D : List UInt8) : Nat -> Nat -> List (Nat × Bool × List UInt8)
  | 0, _ => []
  | k + 1, at_ => if D.length - at_ > most then (at_, true, (D.drop at_).take size) :: dX most size D k (at_ + size) else [(at_, false, D.drop at_)]
structure Jf (most : Nat) (D : List UInt8) (x : Nat × Bool × List UInt8) : Prop where
  le : x.2.2.length <= most
  at_ : x.1 <= D.length
  unit : x.1 % 8 = 0
  lt : x.1 + x.2.2.length <= D.length
  cut : (D.take (x.1 + x.2.2.length)).drop x.1 = x.2.2
theorem chunk_ok {most size : Nat} {D : List UInt8} (hs : size <= most) (h8 : size % 8 = 0) : ∀ {k at_ : Nat}, at_ <= D.length -> at_ % 8 = 0 -> ∀ x ∈ dX most size D k at_, Jf most D x
  | 0, _, _, _, x, hx => by simp [dX] at hx
  | k + 1, at_, ha, hu, x, hx => by
    unfold dX at hx
    split at hx
    · rename_i hm
      rcases List.mem_cons.1 hx with rfl | hx
      · have e : ((D.drop at_).take size).length = size := by rw [List.length_take, List.length_drop]; omega
        refine ⟨by simp only [List.length_take]; omega, ha, hu, by simp only [e]; omega, ?_⟩
        simp only [e]
        rw [List.drop_take, show at_ + size - at_ = size by omega]
      · exact chunk_ok hs h8 (by omega) (by omega) x hx
    · rename_i hm
      rcases List.mem_cons.1 hx with rfl | hx
      · have e : at_ + (D.drop at_).length = D.length := by rw [List.length_drop]; omega
        refine ⟨by simp only [List.length_drop]; omega, ha, hu, by simp only [e]; omega, ?_⟩
        simp only [e, List.take_length]
      · simp at hx
theorem vk {most size : Nat} {D : List UInt8} : ∀ {k at_ : Nat}, (dX most size D k at_).length <= k
  | 0, _ => by simp [dX]
  | k + 1, at_ => by
    unfold dX
    split
    · have := vk (most := most) (size := size) (D := D) (k := k) (at_ := at_ + size)
      simp only [List.length_cons]; omega
    · simp
def lC (nx off : Nat) (more : Bool) (id : Nat) : List UInt8 := [UInt8.ofNat nx, 0] ++ dK 2 (off + if more then 1 else 0) ++ dK 4 id
theorem lG (nx off : Nat) (more : Bool) (id : Nat) : (lC nx off more id).length = 8 := by simp [lC, aP]
def jl (p : dZ) (id : Nat) (x : Nat × Bool × List UInt8) : dZ := { p with nx := 44, data := lC p.nx.toNat x.1 x.2.1 id ++ x.2.2 }
def rG (p : dZ) (id mtu : Nat) : List dZ :=
  if 40 + p.data.length <= mtu then [p] else (dX (mtu - 48) ((mtu - 48) / 8 * 8) p.data (p.data.length + 1) 0).map (jl p id)
def partOf (q : dZ) : List UInt8 := if q.nx = 44 then q.data.drop 8 else q.data
theorem Jv (p : dZ) (id mtu : Nat) : (rG p id mtu).length <= p.data.length + 1 := by
  unfold rG
  split
  · simp
  · rw [List.length_map]; exact vk
structure VW (p : dZ) (mtu : Nat) (q : dZ) : Prop where
  check : q.check = 0
  src : q.src = p.src
  dst : q.dst = p.dst
  hp : q.hp = p.hp
  len : 40 + q.data.length <= mtu
  frag : q.nx = 44 -> 8 <= q.data.length
theorem Vz {p : dZ} {id mtu : Nat} (hm : 1280 <= mtu) (hM : mtu <= 65535) (hc : p.check = 0) (hn : p.nx ≠ 44) : ∀ q ∈ rG p id mtu, VW p mtu q := by
  intro q hq
  obtain ⟨⟨⟨f1, f2, f3⟩, f4, f5⟩, f6⟩ := fZ hc
  unfold rG at hq
  split at hq
  · obtain rfl : q = p := by simpa using hq
    exact ⟨hc, rfl, rfl, rfl, by assumption, fun h => absurd h hn⟩
  · obtain ⟨x, hx, rfl⟩ := List.mem_map.1 hq
    have ok := chunk_ok (most := mtu - 48) (size := (mtu - 48) / 8 * 8) (by omega) (by omega) (Nat.zero_le _) rfl x hx
    have hl : (jl p id x).data.length = 8 + x.2.2.length := by
      show (lC _ _ _ _ ++ x.2.2).length = _
      rw [List.length_append, lG]
    have := ok.le
    refine ⟨?_, rfl, rfl, rfl, by omega, fun _ => by omega⟩
    unfold dZ.check
    rw [if_pos ⟨⟨f1, ⟨⟨by omega, by omega⟩, by simp [jl], by simp [jl]⟩, f3⟩, f4, f5⟩, if_pos (by omega)]
theorem JU {p : dZ} (h : p.check = 0) (ho : p.ok) : jD p.bytes false = 0 ∧ wR p.bytes = p := by
  obtain ⟨h1, h2⟩ := Qv h ho
  refine ⟨?_, h2⟩
  have hl := lI ho
  have hn : num p.bytes 4 2 = p.data.length ∨ num p.bytes 4 2 <= p.bytes.length - 40 := by
    have := congrArg (fun q : dZ => q.data.length) h2
    simp only [wR, List.length_take, List.length_drop] at this
    by_cases hc : num p.bytes 4 2 <= p.bytes.length - 40
    · exact .inr hc
    · left
      obtain ⟨_, _, hN⟩ : True ∧ True ∧ num p.bytes 4 2 = p.data.length := by
        refine ⟨trivial, trivial, ?_⟩
        have hh := rE p
        rw [dZ.bytes, qh (by omega), dZ.head, qh (by simp [aP])]
        unfold num
        rw [List.drop_append_of_le_length (by rw [aP]; omega), List.drop_of_length_le (by rw [aP]; omega), List.nil_append, List.take_of_length_le (by rw [aP]; omega), qW]
        exact Nat.mod_eq_of_lt (by have := (fZ h).2; omega)
      exact hN
  unfold jD at h1 ⊢
  split at h1
  · omega
  rename_i c1
  split at h1
  · omega
  rename_i c2
  rw [if_neg c1, if_neg c2, if_neg (by omega)]
end Gp.V4
end
section
namespace Go.Proofs
open Gp Gp.V4
set_option maxRecDepth 100000
set_option maxHeartbeats 1000000
theorem Qn {e : TypeId} {w : World} {x : ah} {m : List UInt8} (hx : aS w x m) (hl : m.length <= 2 ^ 46) {K : ah -> World -> Prop}
    (hK : ∀ r w', Buf w' r (bytesV m) -> (r.a = none ↔ x.a = none) -> Ext w w' -> (∀ b, ah.at r b -> w.heap.size <= b) -> K r w') :
    (bif (Option.isNone x.a) then K ⟨none, 0, 0⟩ w else Al w (.cells ⟨[]⟩ e) fun a3 w2 => gI e 1 1 [(Value.int .u8 0)] ⟨(some a3), 0, 0⟩ x w2 K) := by
  cases hxa : x.a with
  | none =>
    simp only [Option.isNone_none, cond_true]
    have := hx.empty hxa
    subst this
    exact hK _ _ Buf.nil (by simp [hxa]) (Ext.refl _) fun b ⟨o, h⟩ => by cases h
  | some a =>
    simp only [Option.isNone_some, cond_false]
    refine aK fun b w2 r2 e2 _ f2 => ?_
    have hx2 := hx.ext f2
    refine bC (l := []) ⟨rfl, .inr ⟨b, [], rfl, rfl, by simpa [bytesV] using r2⟩⟩ hx2 (by simpa using hl) fun s' w' h1 h2 h3 h4 => ?_
    refine hK _ _ (by simpa using h1) (by rw [hxa]; exact ⟨fun h => by have := (h4 h).2; simp at this, fun h => by simp at h⟩) (bF.new (Ext.fr f2 h2) ?_) (fun c hc => ?_)
    · rintro y hy ⟨o, e⟩
      cases e; omega
    · rcases h3 c hc with ⟨o, e⟩ | h
      · cases e; omega
      · have := (f2 fun _ => False).size; omega
theorem iZ {w : World} {x : ah} {m : List UInt8} (hx : aS w x m) (hl : m.length <= 2 ^ 46) :
    aC x w fun r w' => Buf w' r (bytesV m) ∧ (r.a = none ↔ x.a = none) ∧ Ext w w' ∧ ∀ b, ah.at r b -> w.heap.size <= b := by
  apply jC
  exact Qn (K := fun r w' => Buf w' r (bytesV m) ∧ (r.a = none ↔ x.a = none) ∧ Ext w w' ∧ ∀ b, ah.at r b -> w.heap.size <= b) hx hl fun r w' h1 h2 h3 h4 => ⟨h1, h2, h3, h4⟩
theorem KI (k : Int) (w : World) : lQ k w fun r w' => r = decide (iQ k) ∧ w' = w := by
  apply Lj
  by_cases h1 : k >= 1
  · by_cases h2 : k <= 4
    · have : iQ k := ⟨h1, h2⟩
      simp [h1, h2, this]
    · have : ¬ iQ k := fun h => h2 h.2
      simp [h1, h2, this]
  · have : ¬ iQ k := fun h => h1 h.1
    simp [h1, this]
theorem VP {n : Int} {i : Nat} (hi : i <= 7) (hn : 0 <= n) : lu .i64 n (IntKind.i64.wrap (8 * (i : Int))) = ((n.toNat / 256 ^ i : Nat) : Int) := by
  rw [wrap_i64 (by omega) (by omega)]
  unfold lu
  have e : (2 : Int) ^ (min ((8 : Int) * (i : Int)).toNat (IntKind.bits .i64)) = ((256 ^ i : Nat) : Int) := by
    have : i = 0 ∨ i = 1 ∨ i = 2 ∨ i = 3 ∨ i = 4 ∨ i = 5 ∨ i = 6 ∨ i = 7 := by omega
    rcases this with rfl | rfl | rfl | rfl | rfl | rfl | rfl | rfl <;> decide
  rw [e, Int.fdiv_eq_ediv_of_nonneg _ (Int.natCast_nonneg _), Int.natCast_ediv, Int.toNat_of_nonneg hn]
theorem QK {n k : Int} (hk : iQ k) (hn : 0 <= n) : (lu .i64 n (IntKind.i64.wrap (8 * k)) == 0) = decide (n < 256 ^ k.toNat) := by
  obtain ⟨h1, h2⟩ := hk
  obtain ⟨m, rfl⟩ : ∃ m : Nat, k = (m : Int) := ⟨k.toNat, by omega⟩
  rw [VP (by omega) hn]
  have hp : 0 < 256 ^ m := Nat.pow_pos (by omega)
  obtain ⟨x, rfl⟩ : ∃ x : Nat, n = (x : Int) := ⟨n.toNat, by omega⟩
  have e : ((256 : Int) ^ (m : Int).toNat) = ((256 ^ m : Nat) : Int) := by simp
  rw [e]
  simp only [Int.toNat_natCast]
  by_cases h : x < 256 ^ m
  · have : x / 256 ^ m = 0 := Nat.div_eq_of_lt h
    have h' : ((x : Int) < ((256 ^ m : Nat) : Int)) := by omega
    rw [this]; simp only [h', decide_true]; rfl
  · have : 1 <= x / 256 ^ m := (Nat.le_div_iff_mul_le hp).2 (by omega)
    have h' : ¬ ((x : Int) < ((256 ^ m : Nat) : Int)) := by omega
    simp only [h', decide_false, beq_eq_false_iff_ne, ne_eq]
    omega
theorem gW (n k : Int) (w : World) : bY n k w fun r w' => r = decide (aU n k) ∧ w' = w := by
  apply NV
  refine Aw (KI k w) ?_
  rintro r w1 ⟨rfl, rfl⟩
  by_cases hk : iQ k
  · by_cases hn : n >= 0
    · simp only [hk, hn, decide_true, cond_true]
      refine ⟨by have := hk.1; have := hk.2; rw [wrap_i64 (by omega) (by omega)]; omega, ?_, by trivial⟩
      rw [QK hk hn]
      simp [aU, hk, hn]
    · simp only [hk, hn, decide_true, decide_false, cond_true, cond_false]
      have : ¬ aU n k := fun h => hn h.2.1
      exact ⟨by simp [this], by trivial⟩
  · simp only [hk, decide_false, cond_false]
    exact ⟨by simp [aU, hk], by trivial⟩
theorem FP {w : World} {s : ah} {l : List UInt8} (h : aS w s l) (hl : l.length <= 2 ^ 62) (at_ k : Int) : jZ s at_ k w fun r e w' => w' = w ∧
    if ¬ iQ k ∨ at_ < 0 then e = 1 ∧ r = ⟨none, 0, 0⟩ else if (l.length : Int) < at_ + k then e = 3 ∧ r = ⟨none, 0, 0⟩ else e = 0 ∧ aS w r ((l.drop at_.toNat).take k.toNat) ∧ ∀ a, s.a = some a -> r.a = some (a.add at_.toNat) := by
  apply Ho
  have hlen := h.1
  refine Aw (KI k w) ?_
  rintro r w1 ⟨rfl, rfl⟩
  by_cases hk : iQ k
  · have hk1 := hk.1
    have hk2 := hk.2
    by_cases ha : at_ < 0
    · simp only [hk, ha, decide_true, Bool.not_true, cond_true, cond_false]
      exact ⟨by trivial, by simp⟩
    · have hno : ¬ (¬ iQ k ∨ at_ < 0) := by rintro (h | h) <;> contradiction
      simp only [hk, ha, decide_true, decide_false, Bool.not_true, cond_false, not_true_eq_false, or_self, if_false]
      by_cases h1 : ((s.len : Int) < k)
      · simp only [h1, decide_true, cond_true]
        exact ⟨by trivial, by rw [if_pos (by omega)]; exact ⟨by trivial, by trivial⟩⟩
      · simp only [h1, decide_false, cond_false]
        rw [wrap_i64 (n := (s.len : Int) - k) (by omega) (by omega)]
        by_cases h2 : at_ > (s.len : Int) - k
        · simp only [h2, decide_true, cond_true]
          exact ⟨by trivial, by rw [if_pos (by omega)]; exact ⟨by trivial, by trivial⟩⟩
        · simp only [h2, decide_false, cond_false]
          rw [wrap_i64 (n := at_ + k) (by omega) (by omega)]
          have hcap := h.2.2
          refine ⟨by omega, by omega, by omega, by omega, by trivial, ?_⟩
          rw [if_neg (by omega)]
          have hc := h.cut (lo := at_.toNat) (hi := (at_ + k).toNat) (by omega) (by omega) (at_ + k).toNat (Nat.le_refl _) (at_ + k).toNat (fun e => by omega)
          rw [List.drop_take, show (at_ + k).toNat - at_.toNat = k.toNat by omega] at hc
          refine ⟨by trivial, ?_, fun a hsa => ?_⟩
          · rw [show (at_ + k).toNat - at_.toNat = k.toNat by omega]
            exact hc
          · have hne : ¬ ((at_ + k).toNat = at_.toNat) := by omega
            simp only [kX, hne, if_false, hsa, Option.map_some, Nat.mul_one]
  · simp only [hk, decide_false, Bool.not_false, cond_true]
    exact ⟨by trivial, by simp⟩
theorem KD {n x : Nat} (hn : n < 2 ^ 40) (hx : x < 256) : Bj .i64 (yZ .i64 (n : Int) 8) (x : Int) = ((n * 256 + x : Nat) : Int) := by
  have e0 : yZ .i64 (n : Int) 8 = ((n * 256 : Nat) : Int) := by
    unfold yZ
    have : (2 : Int) ^ (min (8 : Int).toNat (IntKind.bits .i64)) = 256 := by decide
    rw [this, wrap_i64 (by omega) (by omega)]; omega
  rw [e0]
  unfold Bj
  have eb : IntKind.bits .i64 = 64 := rfl
  have h1 : (BitVec.ofInt (IntKind.bits .i64) ((n * 256 : Nat) : Int)).toNat = n * 256 := by
    rw [eb, BitVec.toNat_ofInt]; omega
  have h2 : (BitVec.ofInt (IntKind.bits .i64) (x : Int)).toNat = x := by
    rw [eb, BitVec.toNat_ofInt]; omega
  rw [BitVec.toNat_or, h1, h2]
  have h3 : n * 256 ||| x = n * 256 + x := by
    have := Nat.two_pow_add_eq_or_of_lt (i := 8) (b := x) (by omega) n
    rw [show (2 : Nat) ^ 8 = 256 by decide] at this
    rw [Nat.mul_comm n 256, this]
  rw [h3, wrap_i64 (by omega) (by omega)]
theorem CP {l : List UInt8} (h : l.length <= 4) : fF l < 2 ^ 32 := by
  have h1 := Jq l
  have : (256 : Nat) ^ l.length <= 256 ^ 4 := Nat.pow_le_pow_right (by omega) h
  have e : (256 : Nat) ^ 4 = 4294967296 := by decide
  omega
theorem NT (l : List UInt8) {i : Nat} (h : i < l.length) : fF (l.take (i + 1)) = fF (l.take i) * 256 + l[i].toNat := by
  unfold fF
  rw [List.take_succ_eq_append_getElem h, List.foldl_append]; rfl
def H_ (l : List UInt8) (at_ k : Int) (n e : Int) : Prop :=
  if ¬ iQ k ∨ at_ < 0 then e = 1 ∧ n = 0 else if (l.length : Int) < at_ + k then e = 3 ∧ n = 0 else e = 0 ∧ n = (num l at_.toNat k.toNat : Int)
theorem C_ {w : World} {s : ah} {l : List UInt8} (h : aS w s l) (hl : l.length <= 2 ^ 62) (at_ k : Int) : kN s at_ k w fun n e w' => w' = w ∧ H_ l at_ k n e := by
  apply Qr
  refine zf (FP h hl at_ k) ?_
  rintro r e w1 ⟨rfl, hr⟩
  have main : ∀ (m : List UInt8), aS w1 r m -> m.length <= 4 -> ∀ (K : Int -> Prop), K (fF m : Int) -> dU (S := Int × Int × Unit) (fun s7 w8 next9 =>
      (bif (decide (s7.2.1 < (r.len : Int))) then
        dN r 1 s7.2.1 fun a10 => Ld (.int .u8) w8 a10 fun x11 => 0 <= (8 : Int) ∧ next9 ((Bj .i64 (yZ .i64 s7.1 8) (IntKind.i64.wrap x11)), (IntKind.i64.wrap (s7.2.1 + 1)), ()) w8
      else (w8 = w1 ∧ K s7.1))) (0, 0, ()) w1 := by
    intro m hm hm4 K hK
    have hml := hm.1
    refine bn (fun st W => W = w1 ∧ ∃ i : Nat, i <= m.length ∧ st.2.1 = i ∧ st.1 = (fF (m.take i) : Int)) (fun st _ => m.length - st.2.1.toNat) ⟨rfl, 0, by omega, rfl, rfl⟩ ?_
    rintro ⟨n, j, ⟨⟩⟩ W ⟨rfl, i, hi, rfl, rfl⟩ next hnext
    by_cases hlt : i < m.length
    · have hlt' : ((i : Int) < (r.len : Int)) := by omega
      simp only [hlt', decide_true, cond_true]
      obtain ⟨a, ha, hc⟩ := hm.at_ (List.getElem?_eq_getElem hlt)
      refine ⟨a, ha, by omega, by omega, ?_⟩
      simp only [sx, Int.toNat_natCast, Nat.mul_one, hc]
      refine ⟨by omega, ?_⟩
      have hb := m[i].toNat_lt
      have hn2 : fF (m.take i) < 2 ^ 32 := CP (by simp; omega)
      rw [wrap_i64 (n := ((m[i].toNat : Nat) : Int)) (by omega) (by omega), KD (by omega) (by omega), wrap_i64 (by omega) (by omega)]
      refine hnext _ _ ⟨rfl, i + 1, by omega, by simp, ?_⟩ (by simp only; omega)
      simp only [NT _ hlt]
    · have hlt' : ¬ ((i : Int) < (r.len : Int)) := by omega
      simp only [hlt', decide_false, cond_false]
      have : i = m.length := by omega
      subst this
      rw [List.take_length]
      exact ⟨trivial, hK⟩
  by_cases c1 : ¬ iQ k ∨ at_ < 0
  · rw [if_pos c1] at hr
    obtain ⟨rfl, rfl⟩ := hr
    exact main [] aS.nil (by simp) (fun n => H_ l at_ k n 1) (by unfold H_; rw [if_pos c1]; exact ⟨rfl, rfl⟩)
  · rw [if_neg c1] at hr
    by_cases c2 : (l.length : Int) < at_ + k
    · rw [if_pos c2] at hr
      obtain ⟨rfl, rfl⟩ := hr
      exact main [] aS.nil (by simp) (fun n => H_ l at_ k n 3) (by unfold H_; rw [if_neg c1, if_pos c2]; exact ⟨rfl, rfl⟩)
    · rw [if_neg c2] at hr
      obtain ⟨rfl, hr, _⟩ := hr
      refine main _ hr ?_ (fun n => H_ l at_ k n 0) (by unfold H_; rw [if_neg c1, if_neg c2]; exact ⟨rfl, rfl⟩)
      have hk : iQ k := Classical.byContradiction fun h => c1 (.inl h)
      have := hk.2
      simp; omega
theorem yg {l : List UInt8} {at_ k : Nat} {n e : Int} (hk : 1 <= k ∧ k <= 4) (h : at_ + k <= l.length) (hr : H_ l at_ k n e) : n = (num l at_ k : Int) := by
  unfold H_ at hr
  rw [if_neg (by unfold iQ; omega), if_neg (by omega)] at hr
  simpa using hr.2
theorem Vq {l : List UInt8} {at_ k : Nat} (h : k <= 4) : num l at_ k < 2 ^ 32 := CP (by simp; omega)
def yB (l : List UInt8) : List (vC [.one (.int .u8)]) := l.map fun b => ((b.toNat : Int), ())
theorem Sz (l : List UInt8) (i : Nat) : (yB l)[i]? = (l[i]?).map fun b => ((b.toNat : Int), ()) := by simp [yB]
theorem Ip : ∀ (k n i : Nat), i < k -> (dK k n)[i]? = some (UInt8.ofNat (n / 256 ^ (k - 1 - i)))
  | 0, _, _, h => by omega
  | k + 1, n, 0, _ => by simp [dK]
  | k + 1, n, i + 1, h => by
    simp only [dK, List.getElem?_cons_succ]
    rw [Ip k n i (by omega), show k + 1 - 1 - (i + 1) = k - 1 - i by omega]
theorem JK {n : Int} {k f0 f1 : Nat} (hk : k <= 4) (hn : 0 <= n) :
    zB Tryz.prog [.one (.int .u8)] (Value.func (.func EO) #[] #[(Value.pointer (some ⟨f0, 0, none⟩)), (Value.pointer (some ⟨f1, 0, none⟩))])
      (fun W => Row W f0 [.int .i64 (k : Int)] ∧ Row W f1 [.int .i64 n]) (yB (dK k n.toNat)) := by
  refine ⟨by kernel_rfl, fun l Q D hC hQ hD hy w h0 => ?_⟩
  refine Calls.mono (Di (a0 := .func (.yield l) #[] #[]) (f0 := ⟨f0, 0, none⟩) (f1 := ⟨f1, 0, none⟩) (K := fun w' => Q (yB (dK k n.toNat)).length w' ∨ D w') ?_) (fun e w' h => h)
  have hlen : (yB (dK k n.toNat)).length = k := by simp [yB, aP]
  obtain ⟨r0, _⟩ := hC _ _ h0
  simp only [sx, r0.cell]
  rw [hlen]
  refine bn (fun st W => ∃ i : Nat, i <= k ∧ st.1 = (k : Int) - 1 - i ∧ Q i W) (fun st _ => (st.1 + 1).toNat) ⟨0, by omega, by rw [wrap_i64 (by omega) (by omega)]; simp, h0⟩ ?_
  rintro ⟨x, ⟨⟩⟩ W ⟨i, hi, hx, hq⟩ next hnext
  simp only at hx
  by_cases hlt : i < k
  · have hx0 : x >= 0 := by omega
    obtain ⟨_, r1⟩ := hC _ _ hq
    simp only [hx0, decide_true, cond_true, cond_true, List.getElem?_cons_zero, aj, au, r1.cell]
    refine ⟨by rw [wrap_i64 (by omega) (by omega)]; omega, ?_⟩
    obtain ⟨j, rfl⟩ : ∃ j : Nat, x = (j : Int) := ⟨x.toNat, by omega⟩
    rw [VP (by omega) hn]
    have hj : j = k - 1 - i := by omega
    have e : IntKind.u8.wrap ((n.toNat / 256 ^ j : Nat) : Int) = (((UInt8.ofNat (n.toNat / 256 ^ j)).toNat : Nat) : Int) := by
      rw [IntKind.wrap_u8]; simp
    rw [e]
    refine kD (hy i ((((UInt8.ofNat (n.toNat / 256 ^ j)).toNat : Nat) : Int), ()) W _ ?_ hq ?_ ?_)
    · rw [Sz, Ip _ _ _ hlt, <- hj]; rfl
    · intro W' hq'
      refine ⟨true, rfl, ?_⟩
      simp only [Bool.not_true, cond_false]
      rw [wrap_i64 (by omega) (by omega)]
      exact hnext _ _ ⟨i + 1, by omega, by simp only; omega, hq'⟩ (by simp only; omega)
    · intro W' hd
      refine ⟨false, rfl, ?_⟩
      simp only [Bool.not_false, cond_true]
      exact .inr hd
  · have hx0 : ¬ x >= 0 := by omega
    simp only [hx0, decide_false, cond_false]
    have : i = k := by omega
    subst this
    exact .inl hq
def Ht (w0 w : World) (v : Value) (l : List UInt8) : Prop :=
  ∃ C, zB Tryz.prog [.one (.int .u8)] v C (yB l) ∧ ∀ W S, bF w W S -> (∀ b, w0.heap.size <= b -> b < w.heap.size -> ¬ S b) -> C W
theorem FU {n k : Int} (hk : iQ k) (hn : 0 <= n) (w : World) : j_ n k w fun v w' => Ext w w' ∧ Ht w w' v (dK k.toNat n.toNat) := by
  apply H7
  refine ⟨rfl, aK fun a w1 r1 e1 z1 f1 => ⟨rfl, aK fun b w2 r2 e2 z2 f2 => ?_⟩⟩
  have r1' := r1.ext f2
  obtain ⟨m, rfl⟩ : ∃ m : Nat, k = (m : Int) := ⟨k.toNat, by have := hk.1; omega⟩
  refine ⟨f1.trans f2, _, JK (by have := hk.2; omega) hn, fun W S hf hs => ⟨r2.fr hf (hs _ ?_ ?_), r1'.fr hf (hs _ ?_ ?_)⟩⟩ <;> omega
theorem yH {w0 w : World} {s : ah} {v : Value} {l m : List UInt8} (hs : Buf w s (bytesV l)) (hv : Ht w0 w v m) (hd : ∀ b, ah.at s b -> ¬ (w0.heap.size <= b ∧ b < w.heap.size)) (hl : l.length + m.length <= 2 ^ 46) :
    bH s v w fun r w' => Buf w' r (bytesV (l ++ m)) ∧ bF w w' (ah.at s) ∧ (∀ b, ah.at r b -> ah.at s b ∨ w.heap.size <= b) ∧ (r.a = none -> l ++ m = [] ∧ s.a = none) := by
  obtain ⟨C, hi, hC⟩ := hv
  apply nO
  refine ⟨rfl, aK fun a w1 r1 e1 z1 f1 => ?_⟩
  have hlen : (yB m).length = m.length := by simp [yB]
  have hat : ∀ b, ah.at s b -> b < w.heap.size := fun b hb => hs.lt hb
  refine Ce hi (fun i W => ∃ t : ah, Row W a [.slice t.a t.len t.cap] ∧ Buf W t (bytesV (l ++ m.take i)) ∧ bF w W (ah.at s) ∧ (∀ b, ah.at t b -> ah.at s b ∨ (w.heap.size <= b ∧ b ≠ a ∧ b ≠ ji none w1 ∧ b ≠ w1.heap.size)) ∧ (t.a = none -> l ++ m.take i = [] ∧ s.a = none) ∧ ji none w1 < W.heap.size)
    (fun _ _ => False) (by simp) ?_ ?_ ?_ (by intro e W W' h; exact h.elim) (by intro e W h; exact h.elim) ?_ ?_ (by intro W h; exact h.elim) (by intro id W h; exact h.elim)
  · intro w2 f2 z2
    refine ⟨s, r1.ext f2, by simpa using (hs.ext f1).ext f2, (f1.trans f2) _, fun b hb => .inl hb, ?_, by omega⟩
    simp only [List.take_zero, List.append_nil]
    intro ha
    obtain ⟨_, ⟨_, h2, _⟩ | ⟨c, pad, h2, _⟩⟩ := hs
    · exact ⟨by simpa [bytesV] using h2, ha⟩
    · rw [ha] at h2; cases h2
  · rintro i W ⟨t, _, _, hf, _⟩
    exact hC W _ hf fun b h1 h2 h3 => hd b h3 ⟨h1, h2⟩
  · rintro i W W' ⟨t, h1, h2, h3, h4, h5, h6⟩ hf
    have hla : ji none w1 = w1.heap.size + 1 := rfl
    refine ⟨t, h1.fr hf (by omega), h2.fr hf fun b hb e => ?_, h3.trans hf (fun b hb e => by omega), h4, h5, by have := hf.size; omega⟩
    rcases h4 b hb with h | h
    · have := hat b h; omega
    · omega
  · intro i x W Kb hx ⟨t, h1, h2, h3, h4, h5, h6⟩ hlt hnorm _
    refine ⟨rfl, ?_⟩
    have hla : ji none w1 = w1.heap.size + 1 := rfl
    rw [Sz] at hx
    cases hb : m[i]? with
    | none => rw [hb] at hx; simp at hx
    | some y =>
    rw [hb] at hx
    simp only [Option.map_some, Option.some.injEq] at hx
    subst hx
    have fb := bF.aZ W (ji none w1)
    have h1' := h1.fr fb (by omega)
    have h2' : Buf (aZ W (ji none w1)) t (bytesV (l ++ m.take i)) := h2.fr fb fun b hb e => by
      rcases h4 b hb with h | h
      · have := hat b h; omega
      · omega
    simp only [sx, h1'.cell]
    have hil : i < m.length := (List.getElem?_eq_some_iff.1 hb).1
    refine aK fun c w3 r3 e3 z3 f3 => ?_
    have hz3 : w3.heap.size = W.heap.size + 1 := by rw [z3, e3]; simp [aZ]
    have hx3 : aS w3 ⟨some ⟨c, 0, none⟩, 1, 1⟩ [y] := .aV (aS.row (l := [y]) (by simpa [bytesV] using r3))
    have h2'' := h2'.ext f3
    refine bC h2'' hx3 (by simp; omega) fun s' w4 b4 f4 p4 n4 => ?_
    have hta : ¬ ah.at t a := fun h => by
      rcases h4 a h with h | h
      · have := hat a h; omega
      · exact h.2.1 rfl
    have h1'' := (h1'.ext f3).fr f4 hta
    refine bM h1'' rfl (by simp) fun w5 r5 f5 z5 => ?_
    simp only [List.set_cons_zero] at r5
    have hbz : (aZ W (ji none w1)).heap.size = W.heap.size := by simp [aZ]
    have hsa : ∀ b, ah.at s' b -> b ≠ a := fun b hb e => by
      rcases p4 b hb with h | h
      · exact hta (e ▸ h)
      · have := h1.lt; omega
    refine hnorm w5 (fun b => ah.at t b ∨ b = a) ?_ ?_ ⟨s', r5, ?_, ?_, ?_, ?_, ?_⟩
    · exact ((f3 _).trans (f4.mono fun b h => .inl h) fun _ _ e => e).trans (f5 (fun b => ah.at t b ∨ b = a) (.inr rfl)) fun _ _ e => e
    · rintro b hb1 hb2 (h | h)
      · rcases h4 b h with h | h
        · have := hat b h; omega
        · rcases Nat.lt_or_ge b (ji none w1) with hx | hx <;> omega
      · omega
    · have e : l ++ m.take (i + 1) = l ++ m.take i ++ [y] := by
        rw [List.take_succ_eq_append_getElem hil]
        have : m[i] = y := by rw [List.getElem?_eq_getElem hil] at hb; simpa using hb
        simp [this]
      rw [e]
      exact b4.fr (f5 (· = a) rfl) fun b hb e => hsa b hb e
    · refine ((h3.trans fb fun b hb e => by omega).ext f3).trans (S' := fun b => ah.at t b ∨ b = a) ((f4.mono fun b h => .inl h).trans (f5 (fun b => ah.at t b ∨ b = a) (.inr rfl)) fun _ _ e => e) ?_
      rintro b hb (h | h)
      · rcases h4 b h with h | h
        · exact h
        · omega
      · omega
    · intro b hb
      rcases p4 b hb with h | h
      · exact h4 b h
      · refine .inr ⟨by have := h3.size; omega, hsa b hb, ?_, ?_⟩ <;> omega
    · intro ha
      obtain ⟨h1, h2⟩ := n4 ha
      simp at h1
    · have := f4.size; omega
  · rintro W ⟨t, h1, h2, h3, h4, h5, h6⟩ hm
    have hla : ji none w1 = w1.heap.size + 1 := rfl
    simp only [sx, h1.cell]
    rw [hlen, List.take_length] at h2 h5
    refine ⟨hm rfl, ?_, ?_, ?_, h5⟩
    · exact h2.fr (bF.nT _ _ _) fun b hb e => by
        rcases h4 b hb with h | h
        · have := hat b h; omega
        · omega
    · exact h3.trans (bF.nT _ _ _) fun b hb e => by omega
    · intro b hb
      rcases h4 b hb with h | h
      · exact .inl h
      · exact .inr h.1
theorem MZ {w0 w : World} {v : Value} {m : List UInt8} (hv : Ht w0 w v m) (hl : m.length <= 2 ^ 46) :
    dM v w fun r w' => Buf w' r (bytesV m) ∧ Ext w w' ∧ (∀ b, ah.at r b -> w.heap.size <= b) := by
  apply rH
  refine iy (yH (l := []) Buf.nil hv (by rintro b ⟨o, h⟩; cases h) (by simpa using hl)) ?_
  rintro r w1 ⟨h1, f1, h2, _⟩
  refine ⟨by simpa using h1, f1.new ?_, fun b hb => ?_⟩
  · rintro b _ ⟨o, h⟩; cases h
  · rcases h2 b hb with ⟨o, h⟩ | h
    · cases h
    · exact h
def jU (l : List UInt8) (n k : Int) : List UInt8 := if aU n k then l ++ dK k.toNat n.toNat else l
theorem xB {w : World} {s : ah} {l : List UInt8} (hs : aS w s l) (hl : l.length + 4 <= 2 ^ 46) (n k : Int) :
    iY s n k w fun r w' => Buf w' r (bytesV (jU l n k)) ∧ Ext w w' ∧ (∀ b, ah.at r b -> w.heap.size <= b) := by
  apply Po
  refine aI (iZ hs (by omega)) ?_
  rintro r w1 ⟨b1, _, f1, n1⟩
  refine cu (gW n k w1) ?_
  rintro _ _ ⟨rfl, rfl⟩
  by_cases hf : aU n k
  · simp only [hf, decide_true, Bool.not_true, cond_false]
    refine yK (FU hf.1 hf.2.1 _) ?_
    rintro v w2 ⟨f2, hv⟩
    have hk := hf.1
    refine iy (yH (b1.ext f2) hv (fun b hb h => by have := b1.lt hb; omega) (by rw [aP]; have := hk.2; omega)) ?_
    rintro r' w3 ⟨b3, f3, n3, _⟩
    refine ⟨by simpa [jU, hf] using b3, (f1.trans f2).new f3 fun b hb h => by have := n1 b h; omega, fun b hb => ?_⟩
    have := f1.size
    have := f2.size
    rcases n3 b hb with h | h
    · exact n1 b h
    · omega
  · simp only [hf, decide_false, Bool.not_false, cond_true]
    exact ⟨by simpa [jU, hf] using b1, f1, n1⟩
theorem set_mid {α : Type} (A : List α) (ys : List α) (R : List α) {i : Nat} {y : α} (hi : ys[i]? = some y) (hR : 0 < R.length) :
    (A ++ ys.take i ++ R).set (A.length + i) y = A ++ ys.take (i + 1) ++ R.drop 1 := by
  have hlt := (List.getElem?_eq_some_iff.1 hi).1
  have e : (A ++ ys.take i).length = A.length + i := by simp; omega
  rw [List.set_append_right _ _ (by omega), e, Nat.sub_self]
  cases R with
  | nil => simp at hR
  | cons r R =>
    simp only [List.set_cons_zero, List.drop_succ_cons, List.drop_zero]
    rw [List.take_succ_eq_append_getElem hlt]
    have : ys[i] = y := by rw [List.getElem?_eq_getElem hlt] at hi; simpa using hi
    simp [this]
structure V6 (l : List UInt8) (at_ n k : Int) (w : World) (r : ah) (e : Int) : Prop where
  out : if ¬ aU n k ∨ at_ < 0 then e = 1 ∧ r = ⟨none, 0, 0⟩ else if (l.length : Int) < at_ + k then e = 3 ∧ r = ⟨none, 0, 0⟩ else e = 0 ∧ Buf w r (bytesV (l.take at_.toNat ++ dK k.toNat n.toNat ++ l.drop (at_.toNat + k.toNat)))
theorem QH {w : World} {s : ah} {l : List UInt8} (hs : aS w s l) (hl : l.length <= 2 ^ 46) (at_ n k : Int) :
    qL s at_ n k w fun r e w' => V6 l at_ n k w' r e ∧ Ext w w' ∧ (∀ b, ah.at r b -> w.heap.size <= b) := by
  apply Qa
  refine cu (gW n k w) ?_
  rintro _ _ ⟨rfl, rfl⟩
  by_cases hf : aU n k
  · simp only [hf, decide_true, Bool.not_true, cond_false]
    refine aI (iZ hs (by omega)) ?_
    rintro r w1 ⟨b1, _, f1, n1⟩
    have hk := hf.1
    refine zf (FP (aS.aV b1) (by omega) at_ k) ?_
    rintro r2 e w2 ⟨rfl, hr⟩
    by_cases c1 : at_ < 0
    · rw [if_pos (.inr c1)] at hr
      obtain ⟨rfl, rfl⟩ := hr
      refine ⟨?_, f1, by rintro b ⟨o, h⟩; cases h⟩
      refine ⟨?_⟩
      rw [if_pos (.inr c1)]
      exact ⟨rfl, rfl⟩
    have c1' : ¬ (¬ iQ k ∨ at_ < 0) := by rintro (h | h) <;> contradiction
    have c1'' : ¬ (¬ aU n k ∨ at_ < 0) := by rintro (h | h) <;> contradiction
    rw [if_neg c1'] at hr
    by_cases c2 : (l.length : Int) < at_ + k
    · rw [if_pos c2] at hr
      obtain ⟨rfl, rfl⟩ := hr
      refine ⟨?_, f1, by rintro b ⟨o, h⟩; cases h⟩
      refine ⟨?_⟩
      rw [if_neg c1'', if_pos c2]
      exact ⟨rfl, rfl⟩
    rw [if_neg c2] at hr
    obtain ⟨rfl, hr, ha⟩ := hr
    simp only [show ((0 : Int) != 0) = false from rfl, cond_false]
    refine yK (FU hk hf.2.1 _) ?_
    rintro v w3 ⟨f3, hv⟩
    refine rQ (MZ hv (by rw [aP]; have := hk.2; omega)) ?_
    rintro q w4 ⟨b4, f4, n4⟩
    obtain ⟨m, rfl⟩ : ∃ m : Nat, k = (m : Int) := ⟨k.toNat, by have := hk.1; omega⟩
    obtain ⟨o, rfl⟩ : ∃ o : Nat, at_ = (o : Int) := ⟨at_.toNat, by omega⟩
    simp only [Int.toNat_natCast] at hr ha b4
    have hq := b4.1
    rw [bQ, aP] at hq
    have hbl : (dK m n.toNat).length = m := aP _ _
    have hrl := hr.1
    simp only [List.length_take, List.length_drop] at hrl
    have hqr : ∀ b, ah.at q b -> ¬ ah.at r b := fun b h1 h2 => by
      have := n4 b h1
      have := b1.lt h2
      have := f3.size
      omega
    refine bn (fun st W => ∃ i : Nat, i <= m ∧ st.1 = i ∧ Buf W r (bytesV (l.take o ++ (dK m n.toNat).take i ++ l.drop (o + i))) ∧ Buf W q (bytesV (dK m n.toNat)) ∧ bF w4 W (ah.at r))
      (fun st _ => m - st.1.toNat) ⟨0, by omega, rfl, by simpa using (b1.ext f3).ext f4, b4, bF.refl _ _⟩ ?_
    rintro ⟨x, ⟨⟩⟩ W ⟨i, hi, rfl, h1, h2, h3⟩ next hnext
    by_cases hlt : i < m
    · have hlt' : ((i : Int) < (q.len : Int)) := by omega
      simp only [hlt', decide_true, cond_true]
      have hy : (dK m n.toNat)[i]? = some (dK m n.toNat)[i] := List.getElem?_eq_getElem (by rw [hbl]; exact hlt)
      obtain ⟨a, haq, hc⟩ := (aS.aV h2).at_ hy
      refine ⟨a, haq, by omega, by omega, ?_⟩
      simp only [sx, Int.toNat_natCast, Nat.mul_one, hc]
      have hol : o + i < l.length := by omega
      obtain ⟨b, hb, hset⟩ := h1.set (i := o + i) (by simp [bQ, hbl]; omega)
      have har := ha _ hb
      refine ⟨_, har, by omega, by omega, ?_⟩
      rw [zo]
      simp only [sx, Int.toNat_natCast, Nat.mul_one]
      refine hset _ _ rfl fun w5 b5 f5 z5 => ?_
      rw [wrap_i64 (by omega) (by omega)]
      refine hnext _ _ ⟨i + 1, by omega, by simp, ?_, h2.fr f5 (fun b hb h => hqr b hb h), h3.trans f5 fun _ _ h => h⟩ (by simp only; omega)
      have e := set_mid (l.take o) (dK m n.toNat) (l.drop (o + i)) hy (by simp; omega)
      rw [List.length_take, Nat.min_eq_left (by omega)] at e
      have e' : (bytesV (l.take o ++ (dK m n.toNat).take i ++ l.drop (o + i))).set (o + i) (.int .u8 (dK m n.toNat)[i].toNat) = bytesV (l.take o ++ (dK m n.toNat).take (i + 1) ++ l.drop (o + (i + 1))) := by
        rw [show l.drop (o + (i + 1)) = (l.drop (o + i)).drop 1 by rw [List.drop_drop]; rfl, <- e]
        unfold bytesV
        rw [List.map_set]
      rw [e'] at b5
      exact b5
    · have hlt' : ¬ ((i : Int) < (q.len : Int)) := by omega
      simp only [hlt', decide_false, cond_false]
      have : i = m := by omega
      subst this
      refine ⟨?_, ((f1.trans f3).trans f4).new h3 fun b hb h => by have := n1 b h; omega, n1⟩
      refine ⟨?_⟩
      rw [if_neg c1'', if_neg c2]
      refine ⟨rfl, ?_⟩
      rw [List.take_of_length_le (l := dK i n.toNat) (by omega)] at h1
      simpa using h1
  · simp only [hf, decide_false, Bool.not_false, cond_true]
    refine ⟨?_, Ext.refl _, by rintro b ⟨o, h⟩; cases h⟩
    refine ⟨?_⟩
    rw [if_pos (.inl hf)]
    exact ⟨rfl, rfl⟩
theorem Oh {l : List UInt8} {at_ n k : Int} {w : World} {r : ah} {e : Int} (h1 : aU n k) (h2 : 0 <= at_) (h3 : at_ + k <= l.length) (h : V6 l at_ n k w r e) : e = 0 ∧ Buf w r (bytesV (l.take at_.toNat ++ dK k.toNat n.toNat ++ l.drop (at_.toNat + k.toNat))) := by
  have := h.out
  rwa [if_neg (by rintro (h | h); exact h h1; omega), if_neg (by omega)] at this
def wordAt (l : List UInt8) (j : Nat) : Nat := ((l[j]?).getD 0).toNat * 256 + ((l[j + 1]?).getD 0).toNat
def wB (l : List UInt8) : List (vC [.one (.int .i64), .one (.int .i64)]) := (List.range ((l.length + 1) / 2)).map fun i => (((2 * i : Nat) : Int), ((wordAt l (2 * i) : Nat) : Int), ())
theorem Nk (l : List UInt8) : (wB l).length = (l.length + 1) / 2 := by simp [wB]
theorem QJ (l : List UInt8) {i : Nat} (h : 2 * i < l.length) : (wB l)[i]? = some (((2 * i : Nat) : Int), ((wordAt l (2 * i) : Nat) : Int), ()) := by
  simp only [wB, List.getElem?_map]
  rw [List.getElem?_range (by omega)]; rfl
theorem JZ (l : List UInt8) {i : Nat} (h : 2 * i < l.length) : tot (l.take (2 * (i + 1))) = tot (l.take (2 * i)) + wordAt l (2 * i) := by
  have e : l.take (2 * (i + 1)) = l.take (2 * i) ++ (l.drop (2 * i)).take 2 := by
    rw [Nat.mul_add, List.take_add]
  rw [e, BL _ _ (by simp; omega)]
  congr 1
  unfold wordAt
  rw [<- List.getElem?_drop, show l[2 * i]? = (l.drop (2 * i))[0]? by simp]
  match hd : l.drop (2 * i) with
  | [] => have h3 := congrArg List.length hd; rw [List.length_drop] at h3; simp only [List.length_nil] at h3; omega
  | [a] => simp [tot]
  | a :: b :: r => simp [tot]
theorem Fz (l : List UInt8) (j : Nat) : wordAt l j < 65536 := by
  unfold wordAt
  have h1 := ((l[j]?).getD 0).toNat_lt
  have h2 := ((l[j + 1]?).getD 0).toNat_lt
  omega
theorem LW {s : ah} {f0 : Nat} {l : List UInt8} (hl : l.length <= 2 ^ 46) :
    zB Tryz.prog [.one (.int .i64), .one (.int .i64)] (Value.func (.func Jl) #[] #[(Value.pointer (some ⟨f0, 0, none⟩))])
      (fun W => Row W f0 [.slice s.a s.len s.cap] ∧ aS W s l) (wB l) := by
  refine ⟨by kernel_rfl, fun n Q D hC hQ hD hy w h0 => ?_⟩
  refine Calls.mono (E5 (a0 := .func (.yield n) #[] #[]) (f0 := ⟨f0, 0, none⟩) (K := fun w' => Q (wB l).length w' ∨ D w') ?_) (fun e w' h => h)
  rw [Nk]
  refine bn (fun st W => ∃ i : Nat, i <= (l.length + 1) / 2 ∧ st.1 = ((2 * i : Nat) : Int) ∧ Q i W) (fun st _ => l.length + 1 - st.1.toNat) ⟨0, by omega, rfl, h0⟩ ?_
  rintro ⟨x, ⟨⟩⟩ W ⟨i, hi, rfl, hq⟩ next hnext
  obtain ⟨r0, hs⟩ := hC _ _ hq
  have hsl := hs.1
  simp only [sx, r0.cell]
  by_cases hlt : 2 * i < l.length
  · have hlt' : (((2 * i : Nat) : Int) < (s.len : Int)) := by omega
    simp only [hlt', decide_true, cond_true]
    obtain ⟨a, ha, hc⟩ := hs.at_ (List.getElem?_eq_getElem hlt)
    refine ⟨a, ha, by omega, by omega, ?_⟩
    rw [Int.toNat_natCast]
    simp only [Nat.mul_one, aj, au, hc]
    refine ⟨by omega, ?_⟩
    have hb := l[2 * i].toNat_lt
    have fin : iC Tryz.prog [.one .bool] (.func (.yield n) #[] #[]) [Value.int .i64 ((2 * i : Nat) : Int), Value.int .i64 ((wordAt l (2 * i) : Nat) : Int)] W (fun r11 w12 =>
        ∃ r13 : Bool, r11 = (Value.bool r13) ∧ (bif (!r13) then (Q ((l.length + 1) / 2) w12 ∨ D w12) else next ((IntKind.i64.wrap (((2 * i : Nat) : Int) + 2)), ()) w12)) := by
      refine kD (hy i (((2 * i : Nat) : Int), ((wordAt l (2 * i) : Nat) : Int), ()) W _ (QJ l hlt) hq ?_ ?_)
      · intro W' hq'
        refine ⟨true, rfl, ?_⟩
        simp only [Bool.not_true, cond_false]
        rw [wrap_i64 (by omega) (by omega)]
        exact hnext _ _ ⟨i + 1, by omega, by simp only; omega, hq'⟩ (by simp only; omega)
      · intro W' hd
        refine ⟨false, rfl, ?_⟩
        simp only [Bool.not_false, cond_true]
        exact .inr hd
    rw [wrap_i64 (n := ((2 * i : Nat) : Int) + 1) (by omega) (by omega), wrap_i64 (n := (l[2 * i].toNat : Int)) (by omega) (by omega)]
    by_cases hlt2 : 2 * i + 1 < l.length
    · have hlt2' : (((2 * i : Nat) : Int) + 1 < (s.len : Int)) := by omega
      simp only [hlt2', decide_true, cond_true]
      obtain ⟨a', ha', hc'⟩ := hs.at_ (List.getElem?_eq_getElem hlt2)
      refine ⟨a', ha', by omega, by omega, ?_⟩
      rw [show (((2 * i : Nat) : Int) + 1).toNat = 2 * i + 1 by omega]
      simp only [Nat.mul_one, aj, au, hc']
      have hb' := l[2 * i + 1].toNat_lt
      rw [wrap_i64 (n := (l[2 * i + 1].toNat : Int)) (by omega) (by omega), KD (by omega) (by omega)]
      have e : wordAt l (2 * i) = l[2 * i].toNat * 256 + l[2 * i + 1].toNat := by
        unfold wordAt
        rw [List.getElem?_eq_getElem hlt, List.getElem?_eq_getElem hlt2]; rfl
      rw [e] at fin
      exact fin
    · have hlt2' : ¬ (((2 * i : Nat) : Int) + 1 < (s.len : Int)) := by omega
      simp only [hlt2', decide_false, cond_false]
      have e0 : yZ .i64 (l[2 * i].toNat : Int) 8 = ((l[2 * i].toNat * 256 : Nat) : Int) := by
        have := Oi (a := l[2 * i].toNat) (k := 8) (by omega) (by omega)
        simpa using this
      rw [e0]
      have e : wordAt l (2 * i) = l[2 * i].toNat * 256 := by
        unfold wordAt
        rw [List.getElem?_eq_getElem hlt, List.getElem?_eq_none (by omega)]; simp
      rw [e] at fin
      exact fin
  · have hlt' : ¬ (((2 * i : Nat) : Int) < (s.len : Int)) := by omega
    simp only [hlt', decide_false, cond_false]
    have : i = (l.length + 1) / 2 := by omega
    subst this
    exact .inl hq
def Parts (w : World) (s : ah) (ps : List (ah × List UInt8)) : Prop :=
  s.len = ps.length ∧ (∀ i p, ps[i]? = some p -> ∃ b o, s.a = some ⟨b, o, none⟩ ∧ w.cell? ⟨b, o + i, none⟩ = some (.slice p.1.a p.1.len p.1.cap) ∧ aS w p.1 p.2)
theorem Parts.fr {w w' : World} {s : ah} {ps : List (ah × List UInt8)} (h : Parts w s ps) (hf : Ext w w') : Parts w' s ps :=
  ⟨h.1, fun i p hi => by obtain ⟨b, o, h1, h2, h3⟩ := h.2 i p hi; exact ⟨b, o, h1, DU h2 hf, h3.ext hf⟩⟩
def lg (ps : List (ah × List UInt8)) : Nat := (ps.map fun p => tot p.2).foldr (· + ·) 0
theorem FB {ps : List (ah × List UInt8)} {i : Nat} {p : ah × List UInt8} (h : ps[i]? = some p) : lg (ps.take (i + 1)) = lg (ps.take i) + tot p.2 := by
  have hlt := (List.getElem?_eq_some_iff.1 h).1
  rw [List.take_succ_eq_append_getElem hlt]
  have : ps[i] = p := by rw [List.getElem?_eq_getElem hlt] at h; simpa using h
  rw [this]
  unfold lg
  generalize ps.take i = q
  induction q with
  | nil => simp
  | cons x q ih => simp only [List.map_append, List.cons_append, List.map_cons, List.foldr_cons, List.foldr_append] at ih ⊢; simp at ih ⊢; omega
theorem OE {ps : List (ah × List UInt8)} {n : Nat} (h : ∀ p ∈ ps, p.2.length <= n) : lg ps <= ps.length * (65535 * n) := by
  unfold lg
  induction ps with
  | nil => simp
  | cons p ps ih =>
    simp only [List.map_cons, List.foldr_cons, List.length_cons]
    have h1 := Jj p.2
    have h2 := h p (List.mem_cons_self ..)
    have h3 := ih fun q hq => h q (List.mem_cons_of_mem _ hq)
    have h4 : 65535 * p.2.length <= 65535 * n := Nat.mul_le_mul_left _ h2
    rw [Nat.add_mul]; omega
theorem TA {w : World} {s : ah} {ps : List (ah × List UInt8)} (hs : Parts w s ps) (hn : ps.length <= 64) (hl : ∀ p ∈ ps, p.2.length <= 2 ^ 40) :
    mW s w fun r w' => r = (lg ps : Int) ∧ Ext w w' := by
  apply IE
  refine aK fun a w1 r1 e1 z1 f1 => ?_
  refine bM r1 rfl (by simp) fun w2 r2 f2 z2 => ?_
  have hsl := hs.1
  have x2 : Ext w w2 := f1.new (f2 (· = a) rfl) fun b hb e => by omega
  have hlt0 : ∀ i, lg (ps.take i) <= 2 ^ 62 := fun i => by
    have h1 := OE (ps := ps.take i) (n := 2 ^ 40) fun p hp => hl p (List.mem_of_mem_take hp)
    have h2 : (ps.take i).length <= 64 := by simp; omega
    have h3 : (ps.take i).length * (65535 * 2 ^ 40) <= 64 * (65535 * 2 ^ 40) := Nat.mul_le_mul_right _ h2
    omega
  refine bn (fun st W => ∃ i : Nat, i <= ps.length ∧ st.1.1 = i ∧ Row W a [.int .i64 (lg (ps.take i) : Int)] ∧ Ext w W ∧ (∀ d ∈ st.2, w2.heap.size <= d ∧ d < W.heap.size ∧ W.heap[d]? = some (.deferred (some []))) ∧ st.2.Nodup ∧ w2.heap.size <= W.heap.size)
    (fun st _ => ps.length - st.1.1.toNat) ⟨0, by omega, rfl, by simpa [lg] using r2, x2, by simp, by simp, Nat.le_refl _⟩ ?_
  rintro ⟨⟨x, ⟨⟩⟩, ds⟩ W ⟨i, hi, rfl, h1, h2, h3, h4, h5⟩ next hnext
  by_cases hlt : i < ps.length
  · have hlt' : ((i : Int) < (s.len : Int)) := by omega
    simp only [hlt', decide_true, cond_true]
    obtain ⟨b, o, ha, hc, hb⟩ := (hs.fr h2).2 i _ (List.getElem?_eq_getElem hlt)
    refine ⟨_, ha, by omega, by omega, ?_⟩
    simp only [sx, Int.toNat_natCast, Nat.mul_one, hc]
    generalize hp : ps[i] = p at hc hb
    have hpm : ps[i]? = some p := by rw [List.getElem?_eq_getElem hlt, hp]
    have hpl := hl p (List.mem_of_getElem? hpm)
    apply JH
    refine ⟨rfl, aK fun c w3 r3 e3 z3 f3 => ?_⟩
    have htl : ∀ j, tot (p.2.take j) <= 2 ^ 60 := fun j => by
      have := Jj (p.2.take j)
      have e : (p.2.take j).length <= 2 ^ 40 := by simp; omega
      have : 65535 * (p.2.take j).length <= 65535 * 2 ^ 40 := Nat.mul_le_mul_left _ e
      omega
    have haw : a < w2.heap.size := by omega
    have hla : ji none w3 = w3.heap.size + 1 := rfl
    have hsz := h2.size
    have hbw : ∀ a', p.1.a = some a' -> 0 < p.2.length -> a'.block < w.heap.size := fun a' h h' => by
      obtain ⟨b', o', _, _, hb'⟩ := hs.2 i p hpm
      exact hb'.lt h h'
    refine Ce (LW (s := p.1) (l := p.2) (by omega)) (fun j W' => Row W' a [.int .i64 ((lg (ps.take i) + tot (p.2.take (2 * j)) : Nat) : Int)] ∧ bF w3 W' (· = a) ∧ w3.heap.size + 2 <= W'.heap.size)
      (fun _ _ => False) (by simp) ?_ ?_ ?_ (by intro e W W' h; exact h.elim) (by intro e W h; exact h.elim) ?_ ?_ (by intro W h; exact h.elim) (by intro id W h; exact h.elim)
    · intro w4 f4 z4
      exact ⟨by simpa [tot] using (h1.ext f3).ext f4, f4 _, by omega⟩
    · exact fun j W' h => ⟨r3.fr h.2.1 (by omega), (hb.ext f3).fr h.2.1 fun a' ha' hl' e => by have := hbw a' ha' hl'; omega⟩
    · rintro j W' W'' ⟨g1, g5, g6⟩ hf
      exact ⟨g1.fr hf (by omega), g5.trans hf fun b hb e => by omega, by have := hf.size; omega⟩
    · intro j x W' Kb hx ⟨g1, g5, g6⟩ hlt3 hnorm _
      refine ⟨by trivial, ?_⟩
      have hj : 2 * j < p.2.length := by
        have := (List.getElem?_eq_some_iff.1 hx).1
        rw [Nk] at this; omega
      rw [QJ _ hj] at hx
      simp only [Option.some.injEq] at hx
      subst hx
      have fb := bF.aZ W' (ji none w3)
      have g1' := g1.fr fb (by omega)
      simp only [List.getElem?_cons_zero, aj, au, g1'.cell]
      refine bM g1' rfl (by simp) fun w5 r5 f5 z5 => ?_
      refine hnorm w5 (· = a) (f5 _ rfl) (fun b hb1 hb2 e => by omega) ⟨?_, (g5.trans fb fun b hb e => by omega).trans (f5 (· = a) rfl) fun b hb e => e, by simp [aZ] at z5; omega⟩
      simp only [List.set_cons_zero] at r5
      have := hlt0 i
      have := htl (2 * j)
      have := Fz p.2 (2 * j)
      rw [wrap_i64 (by omega) (by omega)] at r5
      rw [JZ _ hj]
      have e : ((lg (ps.take i) + tot (p.2.take (2 * j)) : Nat) : Int) + ((wordAt p.2 (2 * j) : Nat) : Int) = ((lg (ps.take i) + (tot (p.2.take (2 * j)) + wordAt p.2 (2 * j)) : Nat) : Int) := by omega
      rw [e] at r5
      exact r5
    · rintro W' ⟨g1, g5, g6⟩ hm
      have hmk := hm rfl
      rw [Nk, List.take_of_length_le (l := p.2) (by omega)] at g1
      rw [wrap_i64 (by omega) (by omega)]
      have hx : Ext w W' := (h2.trans f3).new g5 fun b hb e => by omega
      refine hnext _ _ ⟨i + 1, by omega, by simp, by rw [FB hpm]; exact g1, hx, ?_, ?_, by omega⟩ (by simp only; omega)
      · intro d hd
        rcases List.mem_cons.1 hd with rfl | hd
        · exact ⟨by omega, by omega, hmk⟩
        · obtain ⟨q1, q2, q3⟩ := h3 d hd
          refine ⟨q1, by omega, ?_⟩
          rw [g5.same d (by omega) (by omega), (f3 fun _ => False).same d (by omega) (by simp)]
          exact q3
      · refine List.nodup_cons.2 ⟨fun hd => ?_, h4⟩
        have := (h3 _ hd).2.1
        omega
  · have hlt' : ¬ ((i : Int) < (s.len : Int)) := by omega
    simp only [hlt', decide_false, cond_false]
    have : i = ps.length := by omega
    subst this
    rw [List.take_length] at h1
    simp only [sx, h1.cell]
    refine Qg (n := w2.heap.size) ds W (fun d hd => ⟨(h3 d hd).1, (h3 d hd).2.2⟩) h4 fun w6 f6 z6 => ⟨by trivial, h2.new f6 fun b hb e => by omega⟩
theorem Ux {m : Nat} (hm : m < 2 ^ 62) (w : World) : oZ (m : Int) w fun r w' => r = (fold m : Int) ∧ w' = w := by
  apply LC
  have h0 : ¬ ((0 : Int) > (m : Int)) := by omega
  simp only [h0, if_false]
  refine bn (fun st W => W = w ∧ ∃ x : Nat, x < 2 ^ 62 ∧ st.1 = (x : Int) ∧ fold x = fold m) (fun st _ => st.1.toNat) ⟨rfl, m, hm, rfl, rfl⟩ ?_
  rintro ⟨x, ⟨⟩⟩ W ⟨rfl, n, hn, rfl, hf⟩ next hnext
  by_cases hlt : 65535 < n
  · have hlt' : ((n : Int) > 65535) := by omega
    simp only [hlt', decide_true, cond_true]
    refine ⟨by omega, ?_⟩
    have e1 : nN .i64 (n : Int) 65535 = ((n % 65536 : Nat) : Int) := by
      have := uO (a := n) (b := 65535) (by omega) (by omega)
      rw [show (65535 : Nat) = 2 ^ 16 - 1 by decide, vw] at this
      exact this
    have e2 : lu .i64 (n : Int) 16 = ((n / 65536 : Nat) : Int) := yL (a := n) (k := 16) (by omega)
    rw [e1, e2, wrap_i64 (by omega) (by omega)]
    exact hnext _ _ ⟨rfl, n % 65536 + n / 65536, by omega, by simp only; omega, by rw [Gi hlt, hf]⟩ (by simp only; omega)
  · have hlt' : ¬ ((n : Int) > 65535) := by omega
    simp only [hlt', decide_false, cond_false]
    exact ⟨by rw [<- hf, D6 (by omega)], by trivial⟩
theorem QL {m : Nat} (hm : m < 2 ^ 62) (w : World) : kY (m : Int) w fun r w' => r = (fold m : Int) ∧ w' = w := by
  apply Fa
  have h0 : ¬ ((m : Int) < 0) := by omega
  simp only [h0, decide_false, cond_false]
  refine bn (fun st W => W = w ∧ ∃ x : Nat, x < 2 ^ 62 ∧ st.1 = (x : Int) ∧ fold x = fold m) (fun st _ => st.1.toNat) ⟨rfl, m, hm, rfl, rfl⟩ ?_
  rintro ⟨x, ⟨⟩⟩ W ⟨rfl, n, hn, rfl, hf⟩ next hnext
  by_cases hlt : 65535 < n
  · have hlt' : ((n : Int) > 65535) := by omega
    simp only [hlt', decide_true, cond_true]
    refine ⟨by omega, by omega, ?_⟩
    rw [Int.tmod_eq_emod_of_nonneg (by omega), Int.tdiv_eq_ediv_of_nonneg (by omega), wrap_i64 (n := (n : Int) / 65536) (by omega) (by omega), wrap_i64 (by omega) (by omega)]
    exact hnext _ _ ⟨rfl, n % 65536 + n / 65536, by omega, by simp only; omega, by rw [Gi hlt, hf]⟩ (by simp only; omega)
  · have hlt' : ¬ ((n : Int) > 65535) := by omega
    simp only [hlt', decide_false, cond_false]
    exact ⟨by rw [<- hf, D6 (by omega)], by trivial⟩
theorem Hr {ps : List (ah × List UInt8)} (hn : ps.length <= 64) (hl : ∀ p ∈ ps, p.2.length <= 2 ^ 40) (i : Nat) : lg (ps.take i) < 2 ^ 62 := by
  have h1 := OE (ps := ps.take i) (n := 2 ^ 40) fun p hp => hl p (List.mem_of_mem_take hp)
  have h2 : (ps.take i).length <= 64 := by simp; omega
  have h3 : (ps.take i).length * (65535 * 2 ^ 40) <= 64 * (65535 * 2 ^ 40) := Nat.mul_le_mul_right _ h2
  omega
theorem LJ {ps : List (ah × List UInt8)} (hn : ps.length <= 64) (hl : ∀ p ∈ ps, p.2.length <= 2 ^ 40) : lg ps < 2 ^ 62 := by
  have := Hr hn hl ps.length
  rwa [List.take_length] at this
theorem RJ {w : World} {s : ah} {ps : List (ah × List UInt8)} (hs : Parts w s ps) (hn : ps.length <= 64) (hl : ∀ p ∈ ps, p.2.length <= 2 ^ 40) :
    oL s w fun r w' => r = (fold (lg ps) : Int) ∧ Ext w w' := by
  apply Nw
  refine Iz (TA hs hn hl) ?_
  rintro _ w1 ⟨rfl, f1⟩
  refine KG (Ux (LJ hn hl) w1) ?_
  rintro _ _ ⟨rfl, rfl⟩
  exact ⟨by trivial, f1⟩
theorem U5 {w : World} {s : ah} {ps : List (ah × List UInt8)} (hs : Parts w s ps) (hn : ps.length <= 64) (hl : ∀ p ∈ ps, p.2.length <= 2 ^ 40) :
    qQ s w fun r w' => r = ((65535 - fold (lg ps) : Nat) : Int) ∧ Ext w w' := by
  apply PE
  refine DJ (RJ hs hn hl) ?_
  rintro _ w1 ⟨rfl, f1⟩
  have := Ov (lg ps)
  exact ⟨by rw [wrap_i64 (by omega) (by omega)]; omega, f1⟩
theorem Qe {w : World} {s : ah} {ps : List (ah × List UInt8)} (hs : Parts w s ps) (hn : ps.length <= 64) (hl : ∀ p ∈ ps, p.2.length <= 2 ^ 40) :
    nD s w fun r w' => r = decide (fold (lg ps) = 65535) ∧ Ext w w' := by
  apply I4
  refine DJ (RJ hs hn hl) ?_
  rintro _ w1 ⟨rfl, f1⟩
  refine ⟨?_, f1⟩
  by_cases h : fold (lg ps) = 65535
  · simp [h]
  · simp [h]; omega
theorem uQ {w : World} {b : Nat} {s : ah} {l : List UInt8} (h : Row w b [.slice s.a s.len s.cap]) (hs : aS w s l) : Parts w ⟨some ⟨b, 0, none⟩, 1, 1⟩ [(s, l)] := by
  refine ⟨rfl, fun i p hi => ?_⟩
  cases i with
  | zero =>
    simp at hi
    subst hi
    exact ⟨b, 0, rfl, by rw [h.cell]; rfl, hs⟩
  | succ i => simp at hi
theorem yE (s : ah) (l : List UInt8) : lg [(s, l)] = tot l := by simp [lg]
theorem UK {w : World} {s : ah} {l : List UInt8} (h : aS w s l) (hl : l.length <= 2 ^ 46) {j : Nat} (hj : j < l.length) : kH s (j : Int) w fun r w' => r = (wordAt l j : Int) ∧ Ext w w' := by
  apply E8
  have hsl := h.1
  rw [wrap_i64 (n := (j : Int) + 1) (by omega) (by omega)]
  obtain ⟨a, ha, hc⟩ := h.at_ (List.getElem?_eq_getElem hj)
  have hb := l[j].toNat_lt
  by_cases h2 : j + 1 < l.length
  · have h2' : ((j : Int) + 1 < (s.len : Int)) := by omega
    simp only [h2', decide_true, cond_true]
    obtain ⟨a', ha', hc'⟩ := h.at_ (List.getElem?_eq_getElem h2)
    have hb' := l[j + 1].toNat_lt
    refine ⟨a, ha, by omega, by omega, ?_⟩
    rw [Int.toNat_natCast]
    simp only [sx, Nat.mul_one]
    rw [show w.drew.cell? (a.add j) = w.cell? (a.add j) from rfl, hc]
    simp only [aj, au]
    refine ⟨a', ha', by omega, by omega, ?_⟩
    rw [show ((j : Int) + 1).toNat = j + 1 by omega]
    simp only [Nat.mul_one]
    rw [show w.drew.cell? (a'.add (j + 1)) = w.cell? (a'.add (j + 1)) from rfl, hc']
    simp only [aj, au]
    refine ⟨?_, Ext.drew w⟩
    unfold wordAt
    rw [List.getElem?_eq_getElem hj, List.getElem?_eq_getElem h2]
    simp only [Option.getD_some]
    rw [wrap_i64 (n := (l[j].toNat : Int)) (by omega) (by omega), wrap_i64 (n := (l[j + 1].toNat : Int)) (by omega) (by omega), wrap_i64 (n := (l[j].toNat : Int) * 256) (by omega) (by omega), wrap_i64 (by omega) (by omega)]
    omega
  · have h2' : ¬ ((j : Int) + 1 < (s.len : Int)) := by omega
    simp only [h2', decide_false, cond_false]
    refine ⟨a, ha, by omega, by omega, ?_⟩
    rw [Int.toNat_natCast]
    simp only [sx, Nat.mul_one, hc]
    refine ⟨?_, Ext.refl w⟩
    unfold wordAt
    rw [List.getElem?_eq_getElem hj, List.getElem?_eq_none (by omega)]
    rw [wrap_i64 (n := (l[j].toNat : Int)) (by omega) (by omega), wrap_i64 (by omega) (by omega)]
    simp
theorem TP {w : World} {s : ah} {ps : List (ah × List UInt8)} (hs : Parts w s ps) (hn : ps.length <= 64) (hl : ∀ p ∈ ps, p.2.length <= 2 ^ 40) :
    mY s w fun r w' => r = (fold (lg ps) : Int) ∧ Ext w w' := by
  apply Jc
  have hsl := hs.1
  refine bn (fun st W => ∃ i : Nat, i <= ps.length ∧ st.2.1 = i ∧ st.1 = (lg (ps.take i) : Int) ∧ Ext w W) (fun st _ => ps.length - st.2.1.toNat) ⟨0, by omega, rfl, by simp [lg], Ext.refl _⟩ ?_
  rintro ⟨n, x, ⟨⟩⟩ W ⟨i, hi, rfl, rfl, hx⟩ next hnext
  by_cases hlt : i < ps.length
  · have hlt' : ((i : Int) < (s.len : Int)) := by omega
    simp only [hlt', decide_true, cond_true]
    generalize hp : ps[i] = p
    have hpm : ps[i]? = some p := by rw [List.getElem?_eq_getElem hlt, hp]
    have hpl := hl p (List.mem_of_getElem? hpm)
    have h0 := Hr hn hl i
    have h0' := Hr hn hl (i + 1)
    have hsx := hs.fr hx
    refine bn (fun st W' => ∃ j : Nat, j <= (p.2.length + 1) / 2 ∧ st.2.1 = ((2 * j : Nat) : Int) ∧ st.1 = ((lg (ps.take i) + tot (p.2.take (2 * j)) : Nat) : Int) ∧ Ext w W') (fun st _ => p.2.length + 1 - st.2.1.toNat) ⟨0, by omega, rfl, by simp [tot], hx⟩ ?_
    rintro ⟨n, x, ⟨⟩⟩ W' ⟨j, hj, rfl, rfl, hx'⟩ next' hnext'
    obtain ⟨b, o, ha, hc, hb⟩ := (hs.fr hx').2 i p hpm
    refine ⟨_, ha, by omega, by omega, ?_⟩
    have hpl2 := hb.1
    simp only [sx, Int.toNat_natCast, Nat.mul_one, hc]
    by_cases hlt2 : 2 * j < p.2.length
    · have hlt2' : (((2 * j : Nat) : Int) < (p.1.len : Int)) := by omega
      simp only [hlt2', decide_true, cond_true]
      refine ⟨_, ha, by omega, by omega, ?_⟩
      simp only [sx, Int.toNat_natCast, Nat.mul_one, hc]
      refine EK (UK hb (by omega) hlt2) ?_
      rintro _ w2 ⟨rfl, f2⟩
      have := Fz p.2 (2 * j)
      have h3 := Jj (p.2.take (2 * j))
      have h4 : 65535 * (p.2.take (2 * j)).length <= 65535 * 2 ^ 40 := Nat.mul_le_mul_left _ (by simp; omega)
      rw [wrap_i64 (n := _ + _) (by omega) (by omega), wrap_i64 (by omega) (by omega)]
      refine hnext' _ _ ⟨j + 1, by omega, by simp only; omega, ?_, hx'.trans f2⟩ (by simp only; omega)
      rw [JZ _ hlt2]
      simp only; omega
    · have hlt2' : ¬ (((2 * j : Nat) : Int) < (p.1.len : Int)) := by omega
      simp only [hlt2', decide_false, cond_false]
      rw [wrap_i64 (by omega) (by omega), List.take_of_length_le (l := p.2) (by omega)]
      exact hnext _ _ ⟨i + 1, by omega, by simp, by rw [FB hpm], hx'⟩ (by simp only; omega)
  · have hlt' : ¬ ((i : Int) < (s.len : Int)) := by omega
    simp only [hlt', decide_false, cond_false]
    have : i = ps.length := by omega
    subst this
    rw [List.take_length]
    refine En (QL (LJ hn hl) W) ?_
    rintro _ _ ⟨rfl, rfl⟩
    exact ⟨by trivial, hx⟩
theorem Q5 {w : World} {s : ah} {ps : List (ah × List UInt8)} (hs : Parts w s ps) (hn : ps.length <= 64) (hl : ∀ p ∈ ps, p.2.length <= 2 ^ 40) :
    lS s w fun r w' => r = ((65535 - fold (lg ps) : Nat) : Int) ∧ Ext w w' := by
  apply Kt
  refine GN (TP hs hn hl) ?_
  rintro _ w1 ⟨rfl, f1⟩
  have := Ov (lg ps)
  exact ⟨by rw [wrap_i64 (by omega) (by omega)]; omega, f1⟩
theorem rV (n : Int) (w : World) : fH n w fun r w' => r = decide (eU n) ∧ w' = w := by
  apply EM
  by_cases h1 : n >= 0
  · have h1' : 0 <= n := h1
    simp [h1', eU]
  · have h1' : ¬ 0 <= n := h1
    simp [h1', eU]
theorem Af (n : Int) (w : World) : iJ n w fun r w' => r = decide (eU n) ∧ w' = w := by
  apply Ec
  by_cases h1 : n >= 0
  · have h1' : 0 <= n := h1
    simp [h1', eU]
  · have h1' : ¬ 0 <= n := h1
    simp [h1', eU]
theorem QO (k : Nat) (hk : k <= 7) (w : World) : jY (k : Int) w fun r w' => r = ((256 ^ k : Nat) : Int) ∧ w' = w := by
  apply GH
  refine bn (fun st W => W = w ∧ ∃ i : Nat, i <= k ∧ st.2.1 = i ∧ st.1 = ((256 ^ i : Nat) : Int)) (fun st _ => k - st.2.1.toNat) ⟨rfl, 0, by omega, rfl, rfl⟩ ?_
  rintro ⟨n, j, ⟨⟩⟩ W ⟨rfl, i, hi, rfl, rfl⟩ next hnext
  by_cases hlt : i < k
  · have hlt' : ((i : Int) < (k : Int)) := by omega
    simp only [hlt', decide_true, cond_true]
    have hp : (256 : Nat) ^ (i + 1) <= 256 ^ 7 := Nat.pow_le_pow_right (by omega) (by omega)
    have e : (256 : Nat) ^ 7 = 72057594037927936 := by decide
    have e2 : ((256 ^ i : Nat) : Int) * 256 = ((256 ^ (i + 1) : Nat) : Int) := by rw [Nat.pow_succ, Int.natCast_mul]; rfl
    rw [e2]
    have hnx := hnext (((256 ^ (i + 1) : Nat) : Int), ((i + 1 : Nat) : Int), ()) W ⟨rfl, i + 1, by omega, rfl, rfl⟩ (by simp only; omega)
    generalize 256 ^ (i + 1) = q at hp hnx ⊢
    rw [wrap_i64 (by omega) (by omega), wrap_i64 (by omega) (by omega)]
    exact hnx
  · have hlt' : ¬ ((i : Int) < (k : Int)) := by omega
    simp only [hlt', decide_false, cond_false]
    have : i = k := by omega
    subst this
    exact ⟨by trivial, by trivial⟩
theorem jH (n k : Int) (w : World) : bW n k w fun r w' => r = decide (aU n k) ∧ w' = w := by
  apply EG
  by_cases h1 : k >= 1
  · by_cases h2 : k <= 4
    · by_cases h3 : n >= 0
      · simp only [h1, h2, h3, decide_true, cond_true]
        obtain ⟨m, rfl⟩ : ∃ m : Nat, k = (m : Int) := ⟨k.toNat, by omega⟩
        refine yh (QO m (by omega) w) ?_
        rintro r w' ⟨rfl, rfl⟩
        have hs : iQ (m : Int) := ⟨h1, h2⟩
        refine ⟨?_, by trivial⟩
        have h3' : 0 <= n := h3
        simp [aU, hs, h3']
      · have : ¬ aU n k := fun h => h3 h.2.1
        simp [h1, h2, h3, this]
    · have : ¬ aU n k := fun h => h2 h.1.2
      simp [h1, h2, this]
  · have : ¬ aU n k := fun h => h1 h.1.1
    simp [h1, this]
theorem Ri {k n i : Nat} (h : i < k) : (dK k n).take (i + 1) = (dK k n).take i ++ [UInt8.ofNat (n / 256 ^ (k - 1 - i))] := by
  have hl : i < (dK k n).length := by rw [aP]; exact h
  rw [List.take_succ_eq_append_getElem hl]
  have := Ip k n i h
  rw [List.getElem?_eq_getElem hl] at this
  simp at this
  rw [this]
theorem n_ {w : World} {s : ah} {l : List UInt8} (hs : aS w s l) (hl : l.length + 4 <= 2 ^ 46) (n k : Int) (hn : n < 2 ^ 62) :
    aY s n k w fun r w' => Buf w' r (bytesV (jU l n k)) ∧ Ext w w' ∧ (∀ b, ah.at r b -> w.heap.size <= b) := by
  apply Gx
  refine bC (l := []) Buf.nil hs (by simp; omega) fun r w1 b1 f1 n1 _ => ?_
  have x1 : Ext w w1 := f1.new fun b _ ⟨o, h⟩ => by cases h
  have y1 : ∀ b, ah.at r b -> w.heap.size <= b := fun b hb => by
    rcases n1 b hb with ⟨o, h⟩ | h
    · cases h
    · exact h
  rw [List.nil_append] at b1
  refine dF (jH n k w1) ?_
  rintro _ _ ⟨rfl, rfl⟩
  by_cases hf : aU n k
  · simp only [hf, decide_true, Bool.not_true, cond_false]
    obtain ⟨hk1, hk2⟩ := hf.1
    have hn0 := hf.2.1
    obtain ⟨m, rfl⟩ : ∃ m : Nat, k = (m : Int) := ⟨k.toNat, by omega⟩
    obtain ⟨z, rfl⟩ : ∃ z : Nat, n = (z : Int) := ⟨n.toNat, by omega⟩
    refine bn (fun st W => ∃ i : Nat, i <= m ∧ st.2.1 = (m : Int) - 1 - i ∧ Buf W st.1 (bytesV (l ++ (dK m z).take i)) ∧ Ext w W ∧ (∀ b, ah.at st.1 b -> w.heap.size <= b)) (fun st _ => (st.2.1 + 1).toNat)
      ⟨0, by omega, by rw [wrap_i64 (by omega) (by omega)]; simp, by simpa using b1, x1, y1⟩ ?_
    rintro ⟨t, x, ⟨⟩⟩ W ⟨i, hi, hx, h1, h2, h3⟩ next hnext
    simp only at hx h1 h3
    by_cases hlt : i < m
    · have hx0 : x >= 0 := by omega
      simp only [hx0, decide_true, cond_true]
      obtain ⟨j, rfl⟩ : ∃ j : Nat, x = (j : Int) := ⟨x.toNat, by omega⟩
      have hj : j = m - 1 - i := by omega
      refine yh (QO j (by omega) W) ?_
      rintro _ _ ⟨rfl, rfl⟩
      have hp : 0 < 256 ^ j := Nat.pow_pos (by omega)
      refine ⟨by omega, by omega, aK fun c w3 r3 e3 z3 f3 => ?_⟩
      have e : IntKind.u8.wrap (Int.tmod (IntKind.i64.wrap (Int.tdiv (z : Int) ((256 ^ j : Nat) : Int))) 256) = (((UInt8.ofNat (z / 256 ^ j)).toNat : Nat) : Int) := by
        rw [Int.tdiv_eq_ediv_of_nonneg (by omega), <- Int.natCast_ediv]
        have : z / 256 ^ j <= z := Nat.div_le_self _ _
        generalize z / 256 ^ j = q at this ⊢
        rw [wrap_i64 (by omega) (by omega), Int.tmod_eq_emod_of_nonneg (by omega), IntKind.wrap_u8]
        simp
      rw [e] at r3
      have hx3 : aS w3 ⟨some ⟨c, 0, none⟩, 1, 1⟩ [UInt8.ofNat (z / 256 ^ j)] := .aV (aS.row (l := [UInt8.ofNat (z / 256 ^ j)]) (by simpa [bytesV] using r3))
      refine bC (h1.ext f3) hx3 (by simp; omega) fun s' w4 b4 f4 p4 _ => ?_
      rw [wrap_i64 (by omega) (by omega)]
      refine hnext _ _ ⟨i + 1, by omega, by simp only; omega, ?_, (h2.trans f3).new f4 fun b hb h => by have := h3 b h; omega, fun b hb => ?_⟩ (by simp only; omega)
      · rw [Ri hlt, <- hj, <- List.append_assoc]
        exact b4
      · have := h2.size
        have := f3.size
        rcases p4 b hb with h | h
        · exact h3 b h
        · omega
    · have hx0 : ¬ x >= 0 := by omega
      simp only [hx0, decide_false, cond_false]
      have : i = m := by omega
      subst this
      rw [List.take_of_length_le (by rw [aP]; omega)] at h1
      exact ⟨by simpa [jU, hf] using h1, h2, h3⟩
  · simp only [hf, decide_false, Bool.not_false, cond_true]
    exact ⟨by simpa [jU, hf] using b1, x1, y1⟩
theorem zn {w : World} {b : Nat} {l : List Bool} {vs : List Value} (h : Row w b vs) (hv : vs = l.map Value.bool) (n : Nat) (hn : n = l.length) (hl : l.length <= 100) : jM ⟨some ⟨b, 0, none⟩, n, n⟩ w fun r w' => r = l.all id ∧ w' = w := by
  subst hv
  apply Qm
  apply nV
  apply pW
  subst hn
  refine bn (fun st W => W = w ∧ ∃ i : Nat, i <= l.length ∧ st.1 = (i : Int) ∧ (l.take i).all id = true) (fun st _ => l.length - st.1.toNat) ⟨rfl, 0, by omega, rfl, rfl⟩ ?_
  rintro ⟨x, ⟨⟩⟩ W ⟨rfl, i, hi, rfl, hp⟩ next hnext
  by_cases hlt : i < l.length
  · have hlt' : ((i : Int) < (l.length : Int)) := by omega
    simp only [hlt', decide_true, cond_true]
    simp only [sx, h.cell, Int.toNat_natCast, Nat.mul_one, List.getElem?_map, List.getElem?_eq_getElem hlt, Option.map_some]
    refine ⟨by omega, by trivial, ?_⟩
    cases hb : l[i] with
    | true =>
      simp only [show (false == true) = false from rfl, cond_false]
      rw [wrap_i64 (by omega) (by omega)]
      refine hnext _ _ ⟨rfl, i + 1, by omega, by simp, ?_⟩ (by simp only; omega)
      rw [List.take_succ_eq_append_getElem hlt, List.all_append, hp, hb]; rfl
    | false =>
      simp only [show (false == false) = true from rfl, cond_true]
      refine ⟨?_, by trivial⟩
      have : l.all id = false := by
        apply Bool.eq_false_iff.2
        intro h
        have := List.all_eq_true.1 h false (hb ▸ List.getElem_mem hlt)
        cases this
      rw [this]
      simp
  · have hlt' : ¬ ((i : Int) < (l.length : Int)) := by omega
    simp only [hlt', decide_false, cond_false]
    have : i = l.length := by omega
    subst this
    rw [List.take_length] at hp
    exact ⟨by rw [hp]; rfl, by trivial⟩
end Go.Proofs
end
