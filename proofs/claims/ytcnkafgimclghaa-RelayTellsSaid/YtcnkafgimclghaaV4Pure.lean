/- Packets of IPv4 as plain lists of bytes: numbers in bytes, sums, heads; no program in sight. -/
namespace Gp.V4

/-- k bytes of a number, the highest first. -/
def beN : Nat → Nat → List UInt8
  | 0, _ => []
  | k + 1, n => UInt8.ofNat (n / 256 ^ k) :: beN k n

def numBE (l : List UInt8) : Nat := l.foldl (fun n b => n * 256 + b.toNat) 0

theorem beN_len (k n : Nat) : (beN k n).length = k := by
  induction k with
  | zero => rfl
  | succ k ih => simp [beN, ih]

theorem foldBE (l : List UInt8) : ∀ n : Nat, l.foldl (fun n b => n * 256 + b.toNat) n = n * 256 ^ l.length + numBE l := by
  induction l with
  | nil => intro n; simp [numBE]
  | cons b l ih =>
    intro n
    simp only [List.foldl_cons, numBE, List.length_cons]
    rw [ih, ih (0 * 256 + b.toNat)]
    rw [Nat.pow_succ, Nat.add_mul, Nat.add_mul, ← Nat.mul_assoc, Nat.mul_right_comm]
    omega

theorem numBE_cons (b : UInt8) (l : List UInt8) : numBE (b :: l) = b.toNat * 256 ^ l.length + numBE l := by
  show (b :: l).foldl _ 0 = _
  rw [List.foldl_cons, foldBE]; simp

theorem numBE_lt (l : List UInt8) : numBE l < 256 ^ l.length := by
  induction l with
  | nil => simp [numBE]
  | cons b l ih =>
    rw [numBE_cons, List.length_cons, Nat.pow_succ]
    have := b.toNat_lt
    have h2 : b.toNat * 256 ^ l.length ≤ 255 * 256 ^ l.length := Nat.mul_le_mul_right _ (by omega)
    omega

theorem numBE_beN (k n : Nat) : numBE (beN k n) = n % 256 ^ k := by
  induction k with
  | zero => simp [beN, numBE, Nat.mod_one]
  | succ k ih =>
    rw [beN, numBE_cons, beN_len, ih]
    have e : (UInt8.ofNat (n / 256 ^ k)).toNat = n / 256 ^ k % 256 := by simp
    rw [e, Nat.pow_succ, Nat.mod_mul, Nat.mul_comm (256 ^ k), Nat.add_comm]

theorem beN_numBE (l : List UInt8) : beN l.length (numBE l) = l := by
  have key : ∀ (l : List UInt8) (m : Nat), beN l.length (m * 256 ^ l.length + numBE l) = l := by
    intro l
    induction l with
    | nil => intro m; rfl
    | cons b l ih =>
      intro m
      simp only [List.length_cons, beN]
      have hl := numBE_lt l
      have e : m * 256 ^ (l.length + 1) + numBE (b :: l) = (m * 256 + b.toNat) * 256 ^ l.length + numBE l := by
        rw [numBE_cons, Nat.pow_succ, Nat.add_mul, Nat.add_assoc, Nat.mul_comm (256 ^ l.length) 256, Nat.mul_assoc]
      rw [e, ih]
      congr 1
      rw [Nat.mul_comm, Nat.mul_add_div (Nat.pow_pos (by omega)), Nat.div_eq_of_lt hl]
      simp only [Nat.add_zero]
      apply UInt8.toNat_inj.1
      simp
  simpa using key l 0

theorem beN_num {l : List UInt8} {k : Nat} (h : l.length = k) : beN k (numBE l) = l := by subst h; exact beN_numBE l

/-- The sum of all words. -/
def tot : List UInt8 → Nat
  | [] => 0
  | [a] => a.toNat * 256
  | a :: b :: r => a.toNat * 256 + b.toNat + tot r

theorem tot_le : ∀ l : List UInt8, tot l ≤ 65535 * l.length
  | [] => by simp [tot]
  | [a] => by have := a.toNat_lt; simp [tot]; omega
  | a :: b :: r => by
    have := a.toNat_lt
    have := b.toNat_lt
    have := tot_le r
    simp only [tot, List.length_cons]; omega

theorem tot_append : ∀ (l m : List UInt8), l.length % 2 = 0 → tot (l ++ m) = tot l + tot m
  | [], m, _ => by simp [tot]
  | [a], m, h => by simp at h
  | a :: b :: r, m, h => by
    simp only [List.cons_append, tot]
    rw [tot_append r m (by simp at h; omega)]; omega

/-- A number in sixteen bits. -/
def fold (n : Nat) : Nat := if n = 0 then 0 else (n - 1) % 65535 + 1

theorem fold_lt (n : Nat) : fold n < 65536 := by unfold fold; split <;> omega

theorem fold_small {n : Nat} (h : n < 65536) : fold n = n := by unfold fold; split <;> omega

theorem fold_step {n : Nat} (h : 65535 < n) : fold (n % 65536 + n / 65536) = fold n := by
  unfold fold
  rw [if_neg (by omega), if_neg (by omega)]
  omega

theorem fold_comp (t : Nat) : fold (t + (65535 - fold t)) = 65535 := by
  unfold fold
  by_cases h : t = 0
  · subst h; simp
  · rw [if_neg h, if_neg (by omega)]; omega

/-- A packet. -/
structure Pkt where
  tos : Int
  id : Int
  off : Int
  ttl : Int
  proto : Int
  src : Int
  dst : Int
  df : Bool
  mf : Bool
  opts : List UInt8
  data : List UInt8
deriving DecidableEq

def Pkt.zero : Pkt := ⟨0, 0, 0, 0, 0, 0, 0, false, false, [], []⟩

def sizeOk (k : Int) : Prop := 1 ≤ k ∧ k ≤ 4
instance (k : Int) : Decidable (sizeOk k) := inferInstanceAs (Decidable (_ ∧ _))
def fitsP (n k : Int) : Prop := sizeOk k ∧ 0 ≤ n ∧ n < 256 ^ k.toNat
instance (n k : Int) : Decidable (fitsP n k) := inferInstanceAs (Decidable (_ ∧ _))
def rightP (n : Int) : Prop := 0 ≤ n ∧ n < 4294967296
instance (n : Int) : Decidable (rightP n) := inferInstanceAs (Decidable (_ ∧ _))

def Pkt.fine (p : Pkt) : Prop := (fitsP p.tos 1 ∧ fitsP p.ttl 1 ∧ fitsP p.proto 1 ∧ fitsP p.id 2) ∧ (rightP p.src ∧ rightP p.dst) ∧
  (0 ≤ p.off ∧ p.off ≤ 65528 ∧ Int.tmod p.off 8 = 0 ∧ (p.mf = true → p.data.length % 8 = 0)) ∧ p.opts.length ≤ 40 ∧ p.opts.length % 4 = 0
instance (p : Pkt) : Decidable p.fine := inferInstanceAs (Decidable (_ ∧ _))
def Pkt.short (p : Pkt) : Prop := 20 + p.opts.length + p.data.length ≤ 65535 ∧ p.off ≤ 65535 - (p.data.length : Int)
instance (p : Pkt) : Decidable p.short := inferInstanceAs (Decidable (_ ∧ _))
def Pkt.check (p : Pkt) : Int := if p.fine then if p.short then 0 else 6 else 1

def Pkt.bits (p : Pkt) : Nat := p.off.toNat / 8 + (if p.df then 16384 else 0) + (if p.mf then 8192 else 0)

/-- The head with a sum. -/
def Pkt.head (p : Pkt) (s : Nat) : List UInt8 :=
  beN 1 (64 + (20 + p.opts.length) / 4) ++ beN 1 p.tos.toNat ++ beN 2 (20 + p.opts.length + p.data.length) ++ beN 2 p.id.toNat ++ beN 2 p.bits ++ beN 1 p.ttl.toNat ++ beN 1 p.proto.toNat ++ beN 2 s ++ beN 4 p.src.toNat ++ beN 4 p.dst.toNat ++ p.opts

def Pkt.sum (p : Pkt) : Nat := 65535 - fold (tot (p.head 0))

def Pkt.bytes (p : Pkt) : List UInt8 := p.head p.sum ++ p.data

theorem head_len (p : Pkt) (s : Nat) : (p.head s).length = 20 + p.opts.length := by
  simp only [Pkt.head, List.length_append, beN_len]

/-- A number of bytes, or nothing. -/
def num (b : List UInt8) (at_ k : Nat) : Nat := numBE ((b.drop at_).take k)

def hlen (b : List UInt8) : Nat := ((b[0]?).getD 0).toNat % 16 * 4
def ver (b : List UInt8) : Nat := ((b[0]?).getD 0).toNat / 16

def field (b : List UInt8) : Pkt :=
  let f := num b 6 2
  ⟨num b 1 1, num b 4 2, (f % 8192 * 8 : Nat), num b 8 1, num b 9 1, num b 12 4, num b 16 4, f / 16384 % 2 == 1, f / 8192 % 2 == 1, (b.take (hlen b)).drop 20, (b.take (num b 2 2)).drop (hlen b)⟩

/-- What is wrong with a head. -/
def openE (b : List UInt8) (quoted : Bool) : Int :=
  if b.length < 20 then 3
  else if ver b ≠ 4 ∨ hlen b < 20 then 4
  else if b.length < hlen b ∨ (b.length < num b 2 2 ∧ quoted = false) then 3
  else if num b 2 2 < hlen b ∨ 32768 ≤ num b 6 2 then 4
  else 0

def readE (b : List UInt8) (quoted : Bool) : Int :=
  if openE b quoted ≠ 0 then openE b quoted
  else if quoted then 0
  else if fold (tot (b.take (hlen b))) ≠ 65535 then 5
  else if (field b).check ≠ 0 then 4
  else 0

def read (b : List UInt8) (quoted : Bool) : Pkt := if readE b quoted = 0 then field b else Pkt.zero


theorem check_zero {p : Pkt} (h : p.check = 0) : p.fine ∧ p.short := by
  unfold Pkt.check at h
  split at h
  · split at h
    · exact ⟨by assumption, by assumption⟩
    · omega
  · omega

theorem fits1 {n : Int} (h : fitsP n 1) : 0 ≤ n ∧ n < 256 := ⟨h.2.1, by have := h.2.2; simpa using this⟩
theorem fits2 {n : Int} (h : fitsP n 2) : 0 ≤ n ∧ n < 65536 := ⟨h.2.1, by have := h.2.2; simpa using this⟩

theorem uncons {n : Nat} {b : List UInt8} (h : n + 1 ≤ b.length) : ∃ x r, b = x :: r ∧ n ≤ r.length := by
  cases b with
  | nil => simp at h
  | cons x r => exact ⟨x, r, rfl, by simpa using h⟩

theorem twenty {b : List UInt8} (h : 20 ≤ b.length) : ∃ b0 b1 b2 b3 b4 b5 b6 b7 b8 b9 b10 b11 b12 b13 b14 b15 b16 b17 b18 b19 r,
    b = b0 :: b1 :: b2 :: b3 :: b4 :: b5 :: b6 :: b7 :: b8 :: b9 :: b10 :: b11 :: b12 :: b13 :: b14 :: b15 :: b16 :: b17 :: b18 :: b19 :: r := by
  obtain ⟨b0, r0, e0, h1⟩ := uncons h
  subst e0
  obtain ⟨b1, r1, e1, h2⟩ := uncons h1
  subst e1
  obtain ⟨b2, r2, e2, h3⟩ := uncons h2
  subst e2
  obtain ⟨b3, r3, e3, h4⟩ := uncons h3
  subst e3
  obtain ⟨b4, r4, e4, h5⟩ := uncons h4
  subst e4
  obtain ⟨b5, r5, e5, h6⟩ := uncons h5
  subst e5
  obtain ⟨b6, r6, e6, h7⟩ := uncons h6
  subst e6
  obtain ⟨b7, r7, e7, h8⟩ := uncons h7
  subst e7
  obtain ⟨b8, r8, e8, h9⟩ := uncons h8
  subst e8
  obtain ⟨b9, r9, e9, h10⟩ := uncons h9
  subst e9
  obtain ⟨b10, r10, e10, h11⟩ := uncons h10
  subst e10
  obtain ⟨b11, r11, e11, h12⟩ := uncons h11
  subst e11
  obtain ⟨b12, r12, e12, h13⟩ := uncons h12
  subst e12
  obtain ⟨b13, r13, e13, h14⟩ := uncons h13
  subst e13
  obtain ⟨b14, r14, e14, h15⟩ := uncons h14
  subst e14
  obtain ⟨b15, r15, e15, h16⟩ := uncons h15
  subst e15
  obtain ⟨b16, r16, e16, h17⟩ := uncons h16
  subst e16
  obtain ⟨b17, r17, e17, h18⟩ := uncons h17
  subst e17
  obtain ⟨b18, r18, e18, h19⟩ := uncons h18
  subst e18
  obtain ⟨b19, r19, e19, h20⟩ := uncons h19
  subst e19
  exact ⟨b0, b1, b2, b3, b4, b5, b6, b7, b8, b9, b10, b11, b12, b13, b14, b15, b16, b17, b18, b19, r19, rfl⟩

theorem head_eq (p : Pkt) (s : Nat) : p.head s = UInt8.ofNat (64 + (20 + p.opts.length) / 4) :: UInt8.ofNat p.tos.toNat :: UInt8.ofNat ((20 + p.opts.length + p.data.length) / 256) :: UInt8.ofNat (20 + p.opts.length + p.data.length) ::
    UInt8.ofNat (p.id.toNat / 256) :: UInt8.ofNat p.id.toNat :: UInt8.ofNat (p.bits / 256) :: UInt8.ofNat p.bits :: UInt8.ofNat p.ttl.toNat :: UInt8.ofNat p.proto.toNat :: UInt8.ofNat (s / 256) :: UInt8.ofNat s ::
    UInt8.ofNat (p.src.toNat / 16777216) :: UInt8.ofNat (p.src.toNat / 65536) :: UInt8.ofNat (p.src.toNat / 256) :: UInt8.ofNat p.src.toNat ::
    UInt8.ofNat (p.dst.toNat / 16777216) :: UInt8.ofNat (p.dst.toNat / 65536) :: UInt8.ofNat (p.dst.toNat / 256) :: UInt8.ofNat p.dst.toNat :: p.opts := by
  simp [Pkt.head, beN]

theorem tot_head (p : Pkt) {s : Nat} (hs : s < 65536) : tot (p.head s) = tot (p.head 0) + s := by
  rw [head_eq, head_eq]
  simp only [tot, UInt8.toNat_ofNat']
  omega

theorem sum_right (p : Pkt) : fold (tot (p.head p.sum)) = 65535 := by
  rw [tot_head p (by unfold Pkt.sum; omega)]
  exact fold_comp _

theorem bits_lt {p : Pkt} (h : p.fine) : p.bits < 32768 := by
  obtain ⟨_, _, ⟨h1, h2, h3, _⟩, _⟩ := h
  unfold Pkt.bits
  split <;> split <;> omega

theorem bits_off {p : Pkt} (h : p.fine) : ((p.bits % 8192 * 8 : Nat) : Int) = p.off ∧ (p.bits / 16384 % 2 == 1) = p.df ∧ (p.bits / 8192 % 2 == 1) = p.mf := by
  obtain ⟨_, _, ⟨h1, h2, h3, _⟩, _⟩ := h
  rw [Int.tmod_eq_emod_of_nonneg h1] at h3
  unfold Pkt.bits
  refine ⟨by split <;> split <;> omega, ?_, ?_⟩
  · cases p.df <;> cases p.mf <;> simp <;> omega
  · cases p.df <;> cases p.mf <;> simp <;> omega

/-- What was built is read again. -/
theorem read_build {p : Pkt} (h : p.check = 0) (more : List UInt8) : readE (p.bytes ++ more) false = 0 ∧ field (p.bytes ++ more) = p ∧ hlen (p.bytes ++ more) = 20 + p.opts.length := by
  obtain ⟨hf, hs⟩ := check_zero h
  have hb := bits_lt hf
  have hbo := bits_off hf
  obtain ⟨⟨f1, f2, f3, f4⟩, ⟨r1, r2⟩, ⟨o1, o2, o3, o4⟩, p1, p2⟩ := id hf
  have f1 := fits1 f1
  have f2 := fits1 f2
  have f3 := fits1 f3
  have f4 := fits2 f4
  obtain ⟨r11, r12⟩ := r1
  obtain ⟨r21, r22⟩ := r2
  obtain ⟨s1, s2⟩ := hs
  have hsum : p.sum < 65536 := by unfold Pkt.sum; omega
  have e : p.bytes ++ more = p.head p.sum ++ (p.data ++ more) := by simp [Pkt.bytes]
  rw [e]
  have hl := head_len p p.sum
  have hh : hlen (p.head p.sum ++ (p.data ++ more)) = 20 + p.opts.length := by
    rw [head_eq]
    simp only [hlen, List.cons_append, List.getElem?_cons_zero, Option.getD_some, UInt8.toNat_ofNat']
    omega
  have hv : ver (p.head p.sum ++ (p.data ++ more)) = 4 := by
    rw [head_eq]
    simp only [ver, List.cons_append, List.getElem?_cons_zero, Option.getD_some, UInt8.toNat_ofNat']
    omega
  have n2 : num (p.head p.sum ++ (p.data ++ more)) 2 2 = 20 + p.opts.length + p.data.length := by
    rw [head_eq]
    simp [num, numBE]
    omega
  have n6 : num (p.head p.sum ++ (p.data ++ more)) 6 2 = p.bits := by
    rw [head_eq]
    simp [num, numBE]
    omega
  have hfield : field (p.head p.sum ++ (p.data ++ more)) = p := by
    unfold field
    rw [hh, n2, n6]
    have a1 : ((num (p.head p.sum ++ (p.data ++ more)) 1 1 : Nat) : Int) = p.tos := by
      rw [head_eq]; simp [num, numBE]; omega
    have a2 : ((num (p.head p.sum ++ (p.data ++ more)) 4 2 : Nat) : Int) = p.id := by
      rw [head_eq]; simp [num, numBE]; omega
    have a3 : ((num (p.head p.sum ++ (p.data ++ more)) 8 1 : Nat) : Int) = p.ttl := by
      rw [head_eq]; simp [num, numBE]; omega
    have a4 : ((num (p.head p.sum ++ (p.data ++ more)) 9 1 : Nat) : Int) = p.proto := by
      rw [head_eq]; simp [num, numBE]; omega
    have a5 : ((num (p.head p.sum ++ (p.data ++ more)) 12 4 : Nat) : Int) = p.src := by
      rw [head_eq]; simp [num, numBE]; omega
    have a6 : ((num (p.head p.sum ++ (p.data ++ more)) 16 4 : Nat) : Int) = p.dst := by
      rw [head_eq]; simp [num, numBE]; omega
    have a7 : ((p.head p.sum ++ (p.data ++ more)).take (20 + p.opts.length)).drop 20 = p.opts := by
      rw [← hl, List.take_left', head_eq] <;> simp
    have a8 : ((p.head p.sum ++ (p.data ++ more)).take (20 + p.opts.length + p.data.length)).drop (20 + p.opts.length) = p.data := by
      rw [← hl, List.take_append, List.drop_append]
      simp
    simp only [a1, a2, a3, a4, a5, a6, a7, a8, hbo]
  refine ⟨?_, hfield, hh⟩
  unfold readE
  have ho : openE (p.head p.sum ++ (p.data ++ more)) false = 0 := by
    unfold openE
    rw [hh, hv, n2, n6]
    simp only [List.length_append, hl]
    rw [if_neg (by omega), if_neg (by omega), if_neg (by omega), if_neg (by omega)]
  have ht : (p.head p.sum ++ (p.data ++ more)).take (20 + p.opts.length) = p.head p.sum := by rw [← hl]; simp
  rw [ho, hh, hfield, ht, sum_right, h]
  simp

set_option maxRecDepth 100000 in
/-- What was read is built again, but for the sum. -/
theorem build_read {b : List UInt8} (h : readE b false = 0) : (field b).check = 0 ∧ (field b).bytes.length ≤ b.length ∧ 20 ≤ (field b).bytes.length ∧ (field b).bytes.take 10 = b.take 10 ∧ (field b).bytes.drop 12 = (b.take (field b).bytes.length).drop 12 := by
  unfold readE at h
  split at h
  · contradiction
  rename_i ho
  simp only [Bool.false_eq_true, if_false] at h
  split at h
  · omega
  rename_i hs
  split at h
  · omega
  rename_i hc
  have ho : openE b false = 0 := Classical.byContradiction ho
  have hc : (field b).check = 0 := Classical.byContradiction hc
  unfold openE at ho
  split at ho
  · omega
  rename_i c1
  split at ho
  · omega
  rename_i c2
  split at ho
  · omega
  rename_i c3
  split at ho
  · omega
  rename_i c4
  simp only [not_or, and_true, Nat.not_lt, Nat.not_le] at c1 c2 c3 c4
  obtain ⟨c2a, c2b⟩ := c2
  obtain ⟨c3a, c3b⟩ := c3
  obtain ⟨c4a, c4b⟩ := c4
  have c2a : ver b = 4 := Classical.byContradiction c2a
  have ol : (field b).opts.length = hlen b - 20 := by simp [field]; omega
  have dl : (field b).data.length = num b 2 2 - hlen b := by simp [field]; omega
  have bl : (field b).bytes.length = num b 2 2 := by
    unfold Pkt.bytes
    rw [List.length_append, head_len, ol, dl]; omega
  refine ⟨hc, by omega, by omega, ?_, ?_⟩
  · unfold Pkt.bytes
    rw [head_eq, ol, dl]
    obtain ⟨b0, b1, b2, b3, b4, b5, b6, b7, b8, b9, b10, b11, b12, b13, b14, b15, b16, b17, b18, b19, r, rfl⟩ := twenty c1
    have t0 := b0.toNat_lt
    have t1 := b1.toNat_lt
    have t2 := b2.toNat_lt
    have t3 := b3.toNat_lt
    have t4 := b4.toNat_lt
    have t5 := b5.toNat_lt
    have t6 := b6.toNat_lt
    have t7 := b7.toNat_lt
    have t8 := b8.toNat_lt
    have t9 := b9.toNat_lt
    simp [hlen, ver, num, numBE] at c2a c2b c3a c3b c4a c4b
    simp only [List.cons_append, List.take_succ_cons, List.take_zero, List.cons.injEq, and_true]
    have e6 : (field (b0 :: b1 :: b2 :: b3 :: b4 :: b5 :: b6 :: b7 :: b8 :: b9 :: b10 :: b11 :: b12 :: b13 :: b14 :: b15 :: b16 :: b17 :: b18 :: b19 :: r)).bits = b6.toNat * 256 + b7.toNat := by
      simp only [Pkt.bits, field, num, numBE, List.drop_succ_cons, List.drop_zero, List.take_succ_cons, List.take_zero, List.foldl_cons, List.foldl_nil, beq_iff_eq]
      split <;> split <;> omega
    rw [e6]
    simp only [← UInt8.toNat_inj, UInt8.toNat_ofNat']
    simp [field, hlen, num, numBE]
    omega
  · have e : (field b).bytes.drop 20 = (b.take (num b 2 2)).drop 20 := by
      unfold Pkt.bytes
      rw [head_eq]
      simp only [List.cons_append, List.drop_succ_cons, List.drop_zero]
      simp only [field]
      rw [show (List.take (num b 2 2) b).drop 20 = (List.take (hlen b) (List.take (num b 2 2) b)).drop 20 ++ (List.take (num b 2 2) b).drop (hlen b) by
        have := List.take_append_drop (hlen b - 20) ((List.take (num b 2 2) b).drop 20)
        rw [← List.drop_take, List.drop_drop] at this
        rw [show 20 + (hlen b - 20) = hlen b by omega] at this
        exact this.symm]
      rw [List.take_take, Nat.min_eq_left (by omega)]
    have e2 : (field b).bytes.drop 12 = ((field b).bytes.drop 12).take 8 ++ (field b).bytes.drop 20 := by
      have := List.take_append_drop 8 ((field b).bytes.drop 12)
      rw [List.drop_drop] at this; exact this.symm
    have e3 : (b.take (field b).bytes.length).drop 12 = ((b.take (field b).bytes.length).drop 12).take 8 ++ (b.take (field b).bytes.length).drop 20 := by
      have := List.take_append_drop 8 ((b.take (field b).bytes.length).drop 12)
      rw [List.drop_drop] at this; exact this.symm
    rw [e2, e3, e, bl]
    congr 1
    unfold Pkt.bytes
    rw [head_eq]
    obtain ⟨m, hm⟩ : ∃ m, num b 2 2 = m + 20 := ⟨num b 2 2 - 20, by omega⟩
    rw [hm]
    obtain ⟨b0, b1, b2, b3, b4, b5, b6, b7, b8, b9, b10, b11, b12, b13, b14, b15, b16, b17, b18, b19, r, rfl⟩ := twenty c1
    simp only [List.cons_append, List.drop_succ_cons, List.drop_zero, List.take_succ_cons, List.take_zero, List.cons.injEq, and_true]
    have t12 := b12.toNat_lt
    have t13 := b13.toNat_lt
    have t14 := b14.toNat_lt
    have t15 := b15.toNat_lt
    have t16 := b16.toNat_lt
    have t17 := b17.toNat_lt
    have t18 := b18.toNat_lt
    have t19 := b19.toNat_lt
    simp only [← UInt8.toNat_inj, UInt8.toNat_ofNat']
    simp [field, num, numBE]
    omega

end Gp.V4
