import Derived.Test.YtcnkafgimclghaaV4Pure
import Derived.Test.YtcnkafgimclghaaErrPure
/- Packets of version six, and what a message tells of what was sent: no program in sight. -/
namespace Gp.V4

structure Pk6 where
  tr : Int
  fl : Int
  nx : Int
  hp : Int
  src : List UInt8
  dst : List UInt8
  data : List UInt8
deriving DecidableEq

def z16 : List UInt8 := List.replicate 16 0
def Pk6.zero : Pk6 := ⟨0, 0, 0, 0, z16, z16, []⟩

def Pk6.fine (p : Pk6) : Prop := (fitsP p.tr 1 ∧ fitsP p.nx 1 ∧ fitsP p.hp 1) ∧ 0 ≤ p.fl ∧ p.fl < 1048576
open Classical in
noncomputable def Pk6.check (p : Pk6) : Int := if p.fine then if p.data.length ≤ 65535 then 0 else 6 else 1
def Pk6.ok (p : Pk6) : Prop := p.src.length = 16 ∧ p.dst.length = 16

theorem check6_zero {p : Pk6} (h : p.check = 0) : p.fine ∧ p.data.length ≤ 65535 := by
  unfold Pk6.check at h
  split at h
  · split at h
    · exact ⟨by assumption, by assumption⟩
    · omega
  · omega

def Pk6.first (p : Pk6) : Nat := 1610612736 + p.tr.toNat * 1048576 + p.fl.toNat
def Pk6.head (p : Pk6) : List UInt8 := beN 4 p.first ++ beN 2 p.data.length ++ [UInt8.ofNat p.nx.toNat, UInt8.ofNat p.hp.toNat]
def Pk6.bytes (p : Pk6) : List UInt8 := p.head ++ (p.src ++ (p.dst ++ p.data))

theorem head6_len (p : Pk6) : p.head.length = 8 := by simp [Pk6.head, beN_len]
theorem bytes6_len {p : Pk6} (h : p.ok) : p.bytes.length = 40 + p.data.length := by
  simp only [Pk6.bytes, List.length_append, head6_len, h.1, h.2]; omega

/-- What is wrong with bytes. -/
def read6E (l : List UInt8) (quoted : Bool) : Int :=
  if l.length < 40 then 3 else if num l 0 4 / 268435456 ≠ 6 then 4 else if quoted = false ∧ l.length - 40 < num l 4 2 then 3 else 0

def field6 (l : List UInt8) : Pk6 := ⟨(num l 0 4 / 1048576 % 256 : Nat), (num l 0 4 % 1048576 : Nat), (num l 6 1 : Nat), (num l 7 1 : Nat), (l.drop 8).take 16, (l.drop 24).take 16, (l.drop 40).take (num l 4 2)⟩
def read6 (l : List UInt8) (quoted : Bool) : Pk6 := if read6E l quoted = 0 then field6 l else Pk6.zero

theorem field6_ok {l : List UInt8} (h : 40 ≤ l.length) : (field6 l).ok := by
  constructor <;> simp only [field6, List.length_take, List.length_drop] <;> omega

theorem num_pre {a b : List UInt8} {i k : Nat} (h : i + k ≤ a.length) : num (a ++ b) i k = num a i k := by
  unfold num
  rw [List.drop_append_of_le_length (by omega), List.take_append_of_le_length (by rw [List.length_drop]; omega)]

theorem num_take {l : List UInt8} {i k m : Nat} (h : i + k ≤ m) : num (l.take m) i k = num l i k := by
  unfold num
  rw [List.drop_take, List.take_take]
  congr 2; omega

/-- What was built, cut short, is read as quoted. -/
theorem read6_cut {p : Pk6} (h : p.check = 0) (ho : p.ok) {m : Nat} (hm : 40 ≤ m) : read6E (p.bytes.take m) true = 0 ∧ field6 (p.bytes.take m) = { p with data := p.data.take (m - 40) } := by
  obtain ⟨⟨⟨f1, f2, f3⟩, f4, f5⟩, f6⟩ := check6_zero h
  have g1 := fits1 f1
  have g2 := fits1 f2
  have g3 := fits1 f3
  have hh := head6_len p
  have hb := bytes6_len ho
  have fl : p.first < 4294967296 := by unfold Pk6.first; omega
  have n0 : num (p.bytes.take m) 0 4 = p.first := by
    rw [num_take (by omega), Pk6.bytes, num_pre (by omega), Pk6.head, List.append_assoc, num_pre (by rw [beN_len]; omega)]
    unfold num
    rw [List.drop_zero, List.take_of_length_le (by rw [beN_len]; omega), numBE_beN]
    exact Nat.mod_eq_of_lt fl
  have n4 : num (p.bytes.take m) 4 2 = p.data.length := by
    rw [num_take (by omega), Pk6.bytes, num_pre (by omega), Pk6.head, num_pre (by simp [beN_len])]
    unfold num
    rw [List.drop_append_of_le_length (by rw [beN_len]; omega), List.drop_of_length_le (by rw [beN_len]; omega), List.nil_append, List.take_of_length_le (by rw [beN_len]; omega), numBE_beN]
    exact Nat.mod_eq_of_lt (by omega)
  have one : ∀ (x y : UInt8) (r : List UInt8), num (beN 4 p.first ++ beN 2 p.data.length ++ [x, y]) 6 1 = x.toNat ∧ num (beN 4 p.first ++ beN 2 p.data.length ++ [x, y]) 7 1 = y.toNat := by
    intro x y r
    simp only [beN, List.cons_append, List.nil_append]
    constructor <;> simp [num, numBE]
  have n6 : (num (p.bytes.take m) 6 1 : Int) = p.nx := by
    rw [num_take (by omega), Pk6.bytes, num_pre (by omega), Pk6.head, (one _ _ []).1]
    simp; omega
  have n7 : (num (p.bytes.take m) 7 1 : Int) = p.hp := by
    rw [num_take (by omega), Pk6.bytes, num_pre (by omega), Pk6.head, (one _ _ []).2]
    simp; omega
  have d8 : p.bytes.drop 8 = p.src ++ (p.dst ++ p.data) := by
    rw [Pk6.bytes, List.drop_append_of_le_length (by omega), List.drop_of_length_le (by omega), List.nil_append]
  have d24 : p.bytes.drop 24 = p.dst ++ p.data := by
    rw [show 24 = 8 + 16 from rfl, ← List.drop_drop, d8, List.drop_append_of_le_length (by rw [ho.1]; omega), List.drop_of_length_le (by rw [ho.1]; omega), List.nil_append]
  have d40 : p.bytes.drop 40 = p.data := by
    rw [show 40 = 24 + 16 from rfl, ← List.drop_drop, d24, List.drop_append_of_le_length (by rw [ho.2]; omega), List.drop_of_length_le (by rw [ho.2]; omega), List.nil_append]
  constructor
  · unfold read6E
    rw [if_neg (by rw [List.length_take, hb]; omega), n0, if_neg (by unfold Pk6.first; omega), if_neg (by simp)]
  · unfold field6
    rw [n0, n4, n6, n7, List.drop_take, List.drop_take, List.drop_take, d8, d24, d40]
    have e1 : (((p.first / 1048576 % 256 : Nat)) : Int) = p.tr := by unfold Pk6.first; omega
    have e2 : (((p.first % 1048576 : Nat)) : Int) = p.fl := by unfold Pk6.first; omega
    have e3 : ((p.src ++ (p.dst ++ p.data)).take (m - 8)).take 16 = p.src := by
      rw [List.take_take, show min 16 (m - 8) = p.src.length by rw [ho.1]; omega, List.take_left' rfl]
    have e4 : ((p.dst ++ p.data).take (m - 24)).take 16 = p.dst := by
      rw [List.take_take, show min 16 (m - 24) = p.dst.length by rw [ho.2]; omega, List.take_left' rfl]
    have e5 : (p.data.take (m - 40)).take p.data.length = p.data.take (m - 40) := by
      rw [List.take_take]
      by_cases hc : m - 40 ≤ p.data.length
      · rw [Nat.min_eq_right hc]
      · rw [Nat.min_eq_left (by omega), List.take_of_length_le (Nat.le_refl _), List.take_of_length_le (by omega)]
    rw [e1, e2, e3, e4, e5]

theorem read6_all {p : Pk6} (h : p.check = 0) (ho : p.ok) : read6E p.bytes true = 0 ∧ field6 p.bytes = p := by
  have hb := bytes6_len ho
  have := read6_cut h ho (m := p.bytes.length) (by omega)
  rw [List.take_length] at this
  refine ⟨this.1, ?_⟩
  rw [this.2, hb, List.take_of_length_le (by omega)]

/-- A packet of version four, cut short behind its head, is read as quoted. -/
theorem read_cut {l : List UInt8} (h : readE l true = 0) {m : Nat} (hm : hlen l ≤ m) : readE (l.take m) true = 0 ∧ field (l.take m) = { field l with data := (field l).data.take (m - hlen l) } := by
  have ho := read_open h
  unfold openE at ho
  split at ho
  · omega
  rename_i c1
  split at ho
  · omega
  rename_i c2
  split at ho
  · omega
  rename_i c3
  split at ho
  · omega
  rename_i c4
  simp only [not_or, Nat.not_lt] at c1 c2 c3 c4
  have g0 : ∀ k, 0 < k → (l.take k)[0]? = l[0]? := fun k hk => by rw [List.getElem?_take]; simp [hk]
  have eh : hlen (l.take m) = hlen l := by unfold hlen; rw [g0 m (by omega)]
  have ev : ver (l.take m) = ver l := by unfold ver; rw [g0 m (by omega)]
  constructor
  · have : openE (l.take m) true = 0 := by
      unfold openE
      rw [eh, ev, num_take (by omega), num_take (by omega)]
      rw [if_neg (by rw [List.length_take]; omega), if_neg (by omega), if_neg (by simp only [Bool.true_eq_false, and_false, or_false, List.length_take]; omega), if_neg (by omega)]
    unfold readE
    rw [this]; simp
  · unfold field
    simp only [eh, num_take (show 1 + 1 ≤ m by omega), num_take (show 4 + 2 ≤ m by omega), num_take (show 6 + 2 ≤ m by omega), num_take (show 8 + 1 ≤ m by omega), num_take (show 9 + 1 ≤ m by omega), num_take (show 12 + 4 ≤ m by omega), num_take (show 16 + 4 ≤ m by omega), num_take (show 2 + 2 ≤ m by omega)]
    have e1 : ((l.take m).take (hlen l)).drop 20 = (l.take (hlen l)).drop 20 := by rw [List.take_take, Nat.min_eq_left hm]
    have e2 : ((l.take m).take (num l 2 2)).drop (hlen l) = ((l.take (num l 2 2)).drop (hlen l)).take (m - hlen l) := by
      rw [List.take_take, Nat.min_comm, ← List.take_take, List.drop_take]
    rw [e1, e2]

/-! ### What a message tells -/
def tableR (kind rest : Int) : Int × Int × Int × Bool :=
  if kind = 2 then (3, 4, min (max (max rest 0 - 40) 68) 65535, true) else if kind = 1 ∨ kind = 3 ∨ kind = 4 then (3, 1, 0, true) else (0, 0, 0, false)

/-- The bytes within. -/
def innerE (p : Pk6) : Int := if p.nx = 4 then 0 else if p.nx = 44 then if p.data.length < 8 then 3 else if num p.data 2 2 / 8 * 8 = 0 ∧ num p.data 0 1 = 4 then 0 else 4 else 4
def innerL (p : Pk6) : List UInt8 := if p.nx = 4 then p.data else p.data.drop 8

structure Told where
  peer : List UInt8
  kind : Int
  code : Int
  rest : Int
  inner : List UInt8
deriving DecidableEq
def Told.zero : Told := ⟨z16, 0, 0, 0, []⟩

def ofE (own : List UInt8) (kind rest : Int) (l : List UInt8) : Int :=
  if (tableR kind rest).2.2.2 = false then 8
  else if read6E l true ≠ 0 then read6E l true
  else if (field6 l).src ≠ own then 8
  else if innerE (field6 l) ≠ 0 then innerE (field6 l)
  else if readE (innerL (field6 l)) true ≠ 0 then readE (innerL (field6 l)) true
  else if (field (innerL (field6 l))).data.length < 8 then 3
  else 0
def ofT (kind rest : Int) (l : List UInt8) : Told := ⟨(field6 l).dst, (tableR kind rest).1, (tableR kind rest).2.1, (tableR kind rest).2.2.1, innerL (field6 l)⟩
def ofR (own : List UInt8) (kind rest : Int) (l : List UInt8) : Told := if ofE own kind rest l = 0 then ofT kind rest l else Told.zero

theorem ofE_zero {own l : List UInt8} {kind rest : Int} (h : ofE own kind rest l = 0) : (tableR kind rest).2.2.2 = true ∧ read6E l true = 0 ∧ (field6 l).src = own ∧ innerE (field6 l) = 0 ∧ readE (innerL (field6 l)) true = 0 ∧ 8 ≤ (field (innerL (field6 l))).data.length := by
  unfold ofE at h
  split at h
  · omega
  rename_i c1
  split at h
  · rename_i c2; exact absurd h c2
  rename_i c2
  split at h
  · omega
  rename_i c3
  split at h
  · rename_i c4; exact absurd h c4
  rename_i c4
  split at h
  · rename_i c5; exact absurd h c5
  rename_i c5
  split at h
  · omega
  rename_i c6
  exact ⟨by simpa using c1, Classical.byContradiction c2, Classical.byContradiction c3, Classical.byContradiction c4, Classical.byContradiction c5, by omega⟩

/-- What tells of a wrapped packet: it is told. -/
theorem of_wrapped {p : Pk6} (hc : p.check = 0) (ho : p.ok) (hn : p.nx = 4) {m : Nat} (hm : 40 ≤ m) {kind rest : Int} (hk : (tableR kind rest).2.2.2 = true) (hr : readE p.data true = 0) (hl : hlen p.data ≤ m - 40) (hd : 8 ≤ ((field p.data).data.take (m - 40 - hlen p.data)).length) :
    ofE p.src kind rest (p.bytes.take m) = 0 ∧ ofT kind rest (p.bytes.take m) = ⟨p.dst, (tableR kind rest).1, (tableR kind rest).2.1, (tableR kind rest).2.2.1, p.data.take (m - 40)⟩ := by
  obtain ⟨r1, r2⟩ := read6_cut hc ho hm
  obtain ⟨q1, q2⟩ := read_cut hr hl
  have i1 : innerE { p with data := p.data.take (m - 40) } = 0 := by unfold innerE; rw [if_pos hn]
  have i2 : innerL { p with data := p.data.take (m - 40) } = p.data.take (m - 40) := by unfold innerL; rw [if_pos hn]
  constructor
  · unfold ofE
    rw [hk, r1, r2, i1, i2, q1, q2]
    simp only [Bool.true_eq_false, if_false, ne_eq, not_true, if_neg (show ¬ ((field p.data).data.take (m - 40 - hlen p.data)).length < 8 by omega)]
  · unfold ofT
    rw [r2, i2]
end Gp.V4
