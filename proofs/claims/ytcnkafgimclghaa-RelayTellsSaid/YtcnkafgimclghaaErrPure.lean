import Derived.Test.YtcnkafgimclghaaV4Pure
/- Messages of ICMP, and what is told of a fault: no program in sight. -/
namespace Gp.V4

def hostP (a : Int) : Prop := 16777216 ≤ a ∧ a < 3758096384 ∧ a / 16777216 ≠ 127
instance (a : Int) : Decidable (hostP a) := inferInstanceAs (Decidable (_ ∧ _))
def faultP (k : Int) : Prop := (3 ≤ k ∧ k ≤ 5) ∨ k = 11 ∨ k = 12
instance (a : Int) : Decidable (faultP a) := inferInstanceAs (Decidable (_ ∨ _))

theorem hostP.right {a : Int} (h : hostP a) : rightP a := ⟨by have := h.1; omega, by have := h.2.1; omega⟩

/-- A message. -/
structure Msg where
  kind : Int
  code : Int
  rest : Int
  data : List UInt8

def Msg.fine (m : Msg) : Prop := fitsP m.kind 1 ∧ fitsP m.code 1 ∧ fitsP m.rest 4
instance (m : Msg) : Decidable m.fine := inferInstanceAs (Decidable (_ ∧ _))
def Msg.check (m : Msg) : Int := if m.fine then if m.data.length ≤ 65527 then 0 else 6 else 1

def Msg.body (m : Msg) (s : Nat) : List UInt8 := beN 1 m.kind.toNat ++ beN 1 m.code.toNat ++ beN 2 s ++ beN 4 m.rest.toNat ++ m.data
def Msg.sum (m : Msg) : Nat := 65535 - fold (tot (m.body 0))
def Msg.bytes (m : Msg) : List UInt8 := m.body m.sum

theorem body_len (m : Msg) (s : Nat) : (m.body s).length = 8 + m.data.length := by
  simp only [Msg.body, List.length_append, beN_len]

theorem body_eq (m : Msg) (s : Nat) : m.body s = UInt8.ofNat m.kind.toNat :: UInt8.ofNat m.code.toNat :: UInt8.ofNat (s / 256) :: UInt8.ofNat s ::
    UInt8.ofNat (m.rest.toNat / 16777216) :: UInt8.ofNat (m.rest.toNat / 65536) :: UInt8.ofNat (m.rest.toNat / 256) :: UInt8.ofNat m.rest.toNat :: m.data := by
  simp [Msg.body, beN]

theorem tot_body (m : Msg) {s : Nat} (hs : s < 65536) : tot (m.body s) = tot (m.body 0) + s := by
  rw [body_eq, body_eq]
  simp only [tot, UInt8.toNat_ofNat']
  omega

theorem msum_right (m : Msg) : fold (tot m.bytes) = 65535 := by
  unfold Msg.bytes
  rw [tot_body m (by unfold Msg.sum; omega)]
  exact fold_comp _

theorem mcheck_zero {m : Msg} (h : m.check = 0) : m.fine ∧ m.data.length ≤ 65527 := by
  unfold Msg.check at h
  split at h
  · split at h
    · exact ⟨by assumption, by assumption⟩
    · omega
  · omega

/-- Does it tell of no fault, as far as one sees? -/
def plainB (p : Pkt) : Bool := if p.proto = 1 then (match p.data with | [] => false | b :: _ => !decide (faultP (b.toNat : Int))) else true

def Pkt.size (p : Pkt) : Nat := 20 + p.opts.length + p.data.length

def mayB (l : List UInt8) : Bool :=
  decide (readE l true = 0) && (decide ((field l).off ≤ 0) && (decide (hostP (field l).src) && (decide (hostP (field l).dst) && plainB (field l))))

theorem mayB_iff {l : List UInt8} : mayB l = true ↔ readE l true = 0 ∧ (field l).off ≤ 0 ∧ hostP (field l).src ∧ hostP (field l).dst ∧ plainB (field l) = true := by
  simp [mayB]

def makeM (kind code rest : Int) (l : List UInt8) : Msg := ⟨kind, code, rest, l.take (min (field l).size 548)⟩
def makeP (from_ kind code rest : Int) (l : List UInt8) : Pkt := ⟨0, 0, 0, 64, 1, from_, (field l).src, false, false, [], (makeM kind code rest l).bytes⟩

theorem makeP_data (a b c d : Int) (l : List UInt8) : (makeP a b c d l).data = (makeM b c d l).bytes := by unfold makeP; rfl
theorem makeP_opts (a b c d : Int) (l : List UInt8) : (makeP a b c d l).opts = [] := by unfold makeP; rfl
theorem makeP_dst (a b c d : Int) (l : List UInt8) : (makeP a b c d l).dst = (field l).src := by unfold makeP; rfl
theorem makeP_src (a b c d : Int) (l : List UInt8) : (makeP a b c d l).src = a := by unfold makeP; rfl
theorem makeM_data (b c d : Int) (l : List UInt8) : (makeM b c d l).data = l.take (min (field l).size 548) := by unfold makeM; rfl
theorem makeM_kind (b c d : Int) (l : List UInt8) : (makeM b c d l).kind = b := by unfold makeM; rfl

def makeE (from_ kind code rest : Int) (l : List UInt8) : Int :=
  if mayB l = true then if (makeM kind code rest l).check = 0 then if (makeP from_ kind code rest l).check = 0 then 0 else 1 else 1 else 11

theorem makeE_zero {from_ kind code rest : Int} {l : List UInt8} (h : makeE from_ kind code rest l = 0) : mayB l = true ∧ (makeM kind code rest l).check = 0 ∧ (makeP from_ kind code rest l).check = 0 := by
  unfold makeE at h
  split at h
  · split at h
    · split at h
      · exact ⟨by assumption, by assumption, by assumption⟩
      · omega
    · omega
  · omega

def makeR (from_ kind code rest : Int) (l : List UInt8) : Pkt := if makeE from_ kind code rest l = 0 then makeP from_ kind code rest l else Pkt.zero

theorem read_quoted {p : Pkt} (h : p.check = 0) : readE p.bytes true = 0 ∧ field p.bytes = p := by
  have hr := read_build h []
  rw [List.append_nil] at hr
  refine ⟨?_, hr.2.1⟩
  have h0 := hr.1
  have ho : openE p.bytes false = 0 := by
    unfold readE at h0
    split at h0
    · contradiction
    · rename_i hx; exact Classical.byContradiction hx
  have ho' : openE p.bytes true = 0 := by
    unfold openE at ho ⊢
    split at ho
    · omega
    rename_i c1
    split at ho
    · omega
    rename_i c2
    split at ho
    · omega
    rename_i c3
    split at ho
    · omega
    rename_i c4
    rw [if_neg c1, if_neg c2, if_neg (by simp only [Bool.true_eq_false, and_false, or_false]; exact fun h => c3 (.inl h)), if_neg c4]
  unfold readE
  rw [ho']; simp

/-- In answer to what tells of a fault nothing is told. -/
theorem may_fault {from_ kind code rest : Int} {l : List UInt8} (h : makeE from_ kind code rest l = 0) (hf : faultP kind) : mayB (makeP from_ kind code rest l).bytes = false := by
  obtain ⟨_, hm, hp⟩ := makeE_zero h
  obtain ⟨_, hq⟩ := read_quoted hp
  apply Bool.eq_false_iff.2
  intro hx
  have := (mayB_iff.1 hx).2.2.2.2
  rw [hq] at this
  have hk := fits1 (mcheck_zero hm).1.1
  have e : (makeM kind code rest l).kind = kind := rfl
  rw [e] at hk
  simp only [plainB, makeP, if_true, Msg.bytes, body_eq] at this
  have e2 : (((UInt8.ofNat kind.toNat).toNat : Nat) : Int) = kind := by simp; omega
  rw [show (makeM kind code rest l).kind = kind from rfl, e2] at this
  simp [hf] at this

theorem field_size {l : List UInt8} (h : openE l true = 0) : 20 ≤ (field l).size ∧ (field l).size ≤ l.length := by
  unfold openE at h
  split at h
  · omega
  split at h
  · omega
  split at h
  · omega
  split at h
  · omega
  simp only [Pkt.size, field, List.length_drop, List.length_take]
  omega

theorem read_open {l : List UInt8} (h : readE l true = 0) : openE l true = 0 := by
  unfold readE at h
  split at h
  · contradiction
  · rename_i hx; exact Classical.byContradiction hx

/-- What is told of small numbers is told, or nothing may be. -/
theorem make_quote {from_ kind code : Int} {l : List UInt8} (h1 : 0 ≤ from_ ∧ from_ < 4294967296) (h2 : 0 ≤ kind ∧ kind < 256) (h3 : 0 ≤ code ∧ code < 256) : makeE from_ kind code 0 l = if mayB l = true then 0 else 11 := by
  unfold makeE
  split
  · rename_i hm
    obtain ⟨hr, _, hs, _⟩ := mayB_iff.1 hm
    have hz := field_size (read_open hr)
    have hl : (makeM kind code 0 l).data.length ≤ 548 := by simp [makeM]; omega
    have c1 : (makeM kind code 0 l).check = 0 := by
      unfold Msg.check
      rw [if_pos ⟨⟨⟨by omega, by omega⟩, h2.1, by simpa [makeM] using h2.2⟩, ⟨⟨by omega, by omega⟩, h3.1, by simpa [makeM] using h3.2⟩, ⟨⟨by omega, by omega⟩, by simp [makeM], by simp [makeM]⟩⟩, if_pos (by omega)]
    have hb : (makeM kind code 0 l).bytes.length = 8 + (makeM kind code 0 l).data.length := body_len _ _
    have c2 : (makeP from_ kind code 0 l).check = 0 := by
      unfold Pkt.check
      rw [if_pos ?_, if_pos ?_]
      · refine ⟨?_, ?_⟩
        · show 20 + 0 + (makeM kind code 0 l).bytes.length ≤ 65535
          omega
        · show (0 : Int) ≤ 65535 - ((makeM kind code 0 l).bytes.length : Int)
          omega
      · exact ⟨⟨⟨⟨by omega, by omega⟩, by simp [makeP], by simp [makeP]⟩, ⟨⟨by omega, by omega⟩, by simp [makeP], by simp [makeP]⟩, ⟨⟨by omega, by omega⟩, by simp [makeP], by simp [makeP]⟩, ⟨⟨by omega, by omega⟩, by simp [makeP], by simp [makeP]⟩⟩,
          ⟨⟨h1.1, h1.2⟩, hs.right⟩, ⟨by simp [makeP], by simp [makeP], by simp [makeP], by simp [makeP]⟩, by simp [makeP], by simp [makeP]⟩
    rw [if_pos c1, if_pos c2]
  · rfl
end Gp.V4
