import Derived.Test.YtcnkafgimclghaaRelPure
/- What is told of a wrapped datagram, and of what tells of a fault: no program in sight. -/
namespace Gp.V4

/-- What is told of numbers that fit is told, or nothing may be. -/
theorem make_may {from_ kind code rest : Int} {l : List UInt8} (h1 : 0 ≤ from_ ∧ from_ < 4294967296) (h2 : 0 ≤ kind ∧ kind < 256) (h3 : 0 ≤ code ∧ code < 256) (h4 : 0 ≤ rest ∧ rest < 4294967296) : makeE from_ kind code rest l = if mayB l = true then 0 else 11 := by
  unfold makeE
  split
  · rename_i hm
    obtain ⟨hr, _, hs, _⟩ := mayB_iff.1 hm
    have hz := field_size (read_open hr)
    have hl : (makeM kind code rest l).data.length ≤ 548 := by simp [makeM]; omega
    have c1 : (makeM kind code rest l).check = 0 := by
      unfold Msg.check
      rw [if_pos ⟨⟨⟨by omega, by omega⟩, h2.1, by simpa [makeM] using h2.2⟩, ⟨⟨by omega, by omega⟩, h3.1, by simpa [makeM] using h3.2⟩, ⟨⟨by omega, by omega⟩, h4.1, by simpa [makeM] using h4.2⟩⟩, if_pos (by omega)]
    have hb : (makeM kind code rest l).bytes.length = 8 + (makeM kind code rest l).data.length := body_len _ _
    have c2 : (makeP from_ kind code rest l).check = 0 := by
      unfold Pkt.check
      rw [if_pos ?_, if_pos ?_]
      · refine ⟨?_, ?_⟩
        · show 20 + 0 + (makeM kind code rest l).bytes.length ≤ 65535
          omega
        · show (0 : Int) ≤ 65535 - ((makeM kind code rest l).bytes.length : Int)
          omega
      · exact ⟨⟨⟨⟨by omega, by omega⟩, by simp [makeP], by simp [makeP]⟩, ⟨⟨by omega, by omega⟩, by simp [makeP], by simp [makeP]⟩, ⟨⟨by omega, by omega⟩, by simp [makeP], by simp [makeP]⟩, ⟨⟨by omega, by omega⟩, by simp [makeP], by simp [makeP]⟩⟩,
          ⟨⟨h1.1, h1.2⟩, hs.right⟩, ⟨by simp [makeP], by simp [makeP], by simp [makeP], by simp [makeP]⟩, by simp [makeP], by simp [makeP]⟩
    rw [if_pos c1, if_pos c2]
  · rfl

/-- A datagram between hosts. -/
structure Dg (p : Pkt) (n : Nat) : Prop where
  check : p.check = 0
  off : p.off = 0
  proto : p.proto = 17
  src : hostP p.src
  dst : hostP p.dst
  opts : p.opts = []
  data : p.data.length = 8 + n

theorem Dg.len {p : Pkt} {n : Nat} (h : Dg p n) : p.bytes.length = 28 + n := by
  simp only [Pkt.bytes, List.length_append, head_len, h.opts, List.length_nil, h.data]; omega
theorem Dg.hlen {p : Pkt} {n : Nat} (h : Dg p n) : V4.hlen p.bytes = 20 := by
  have := (read_build h.check []).2.2
  rw [List.append_nil, h.opts] at this
  exact this

/-- Wherever it is cut behind its head, a fault may be told of it. -/
theorem Dg.may {p : Pkt} {n : Nat} (h : Dg p n) {m : Nat} (hm : 20 ≤ m) : mayB (p.bytes.take m) = true ∧ (field (p.bytes.take m)).src = p.src := by
  obtain ⟨r1, r2⟩ := read_quoted h.check
  obtain ⟨q1, q2⟩ := read_cut r1 (m := m) (by rw [h.hlen]; exact hm)
  rw [r2] at q2
  refine ⟨mayB_iff.2 ⟨q1, ?_, ?_, ?_, ?_⟩, by rw [q2]⟩
  · rw [q2]; show p.off ≤ 0; rw [h.off]; omega
  · rw [q2]; exact h.src
  · rw [q2]; exact h.dst
  · rw [q2]
    unfold plainB
    rw [if_neg (by show ¬ p.proto = 1; rw [h.proto]; omega)]

def wrapP (own peer l : List UInt8) : Pk6 := ⟨0, 0, 4, 64, own, peer, l⟩

theorem wrap_fine {own peer l : List UInt8} (hl : l.length ≤ 65535) : (wrapP own peer l).check = 0 := by
  unfold Pk6.check
  rw [if_pos, if_pos (show (wrapP own peer l).data.length ≤ 65535 from hl)]
  exact ⟨⟨⟨⟨by omega, by omega⟩, by simp [wrapP], by simp [wrapP]⟩, ⟨⟨by omega, by omega⟩, by simp [wrapP], by simp [wrapP]⟩, ⟨⟨by omega, by omega⟩, by simp [wrapP], by simp [wrapP]⟩⟩, by simp [wrapP], by simp [wrapP]⟩

/-- What tells of the size of a wrapped datagram is told to who sent it. -/
theorem reach {own peer : List UInt8} (ho : own.length = 16) (hp : peer.length = 16) {p : Pkt} {n : Nat} (h : Dg p n) (hn : n ≤ 1000) {m : Nat} (hm : 68 ≤ m) {s : Int} (h0 : 0 ≤ s) (h1 : s ≤ 65535) {from_ : Int} (hf : 0 ≤ from_ ∧ from_ < 4294967296) :
    ofE own 2 s ((wrapP own peer p.bytes).bytes.take m) = 0 ∧ ofR own 2 s ((wrapP own peer p.bytes).bytes.take m) = ⟨peer, 3, 4, max (s - 40) 68, p.bytes.take (m - 40)⟩ ∧
    makeE from_ 3 4 (max (s - 40) 68) (p.bytes.take (m - 40)) = 0 ∧ (makeR from_ 3 4 (max (s - 40) 68) (p.bytes.take (m - 40))).dst = p.src := by
  obtain ⟨r1, r2⟩ := read_quoted h.check
  have hlen := h.len
  have et : tableR 2 s = (3, 4, max (s - 40) 68, true) := by
    unfold tableR
    rw [if_pos rfl]
    simp only [Prod.mk.injEq, true_and, and_true]
    omega
  obtain ⟨e1, e2⟩ := of_wrapped (p := wrapP own peer p.bytes) (wrap_fine (by omega)) ⟨ho, hp⟩ rfl (m := m) (by omega) (kind := 2) (rest := s) (by rw [et]) r1 (by show V4.hlen p.bytes ≤ m - 40; rw [h.hlen]; omega) (by
    show 8 ≤ ((field p.bytes).data.take (m - 40 - V4.hlen p.bytes)).length
    rw [r2, h.hlen, List.length_take, h.data]; omega)
  have e1 : ofE own 2 s ((wrapP own peer p.bytes).bytes.take m) = 0 := e1
  obtain ⟨g1, g2⟩ := h.may (m := m - 40) (by omega)
  have g0 : makeE from_ 3 4 (max (s - 40) 68) (p.bytes.take (m - 40)) = 0 := by
    rw [make_may hf ⟨by omega, by omega⟩ ⟨by omega, by omega⟩ ⟨by omega, by omega⟩, if_pos g1]
  refine ⟨e1, ?_, g0, ?_⟩
  · unfold ofR
    rw [if_pos e1, e2, et]
    rfl
  · unfold makeR
    rw [if_pos g0, makeP_dst, g2]

/-- Nothing is told of what tells of a fault. -/
theorem tells_not {own peer : List UInt8} (ho : own.length = 16) (hp : peer.length = 16) {p : Pkt} {n : Nat} (h : Dg p n) (hn : n ≤ 1000) {kind rest : Int} (he : ofE own kind rest (wrapP own peer (makeP 167772161 3 1 0 p.bytes).bytes).bytes = 0) (from_ k c r : Int) :
    makeE from_ k c r (ofR own kind rest (wrapP own peer (makeP 167772161 3 1 0 p.bytes).bytes).bytes).inner = 11 := by
  have hm := (h.may (m := p.bytes.length) (by have := h.len; omega)).1
  rw [List.take_length] at hm
  have h0 : makeE 167772161 3 1 0 p.bytes = 0 := by rw [make_may ⟨by omega, by omega⟩ ⟨by omega, by omega⟩ ⟨by omega, by omega⟩ ⟨by omega, by omega⟩, if_pos hm]
  have hb := may_fault h0 (.inl ⟨by omega, by omega⟩)
  obtain ⟨_, hc, hk⟩ := makeE_zero h0
  have hl : (makeP 167772161 3 1 0 p.bytes).bytes.length ≤ 65535 := by
    have h2 := (check_zero hk).2.1
    have e : (makeP 167772161 3 1 0 p.bytes).bytes.length = 20 + (makeP 167772161 3 1 0 p.bytes).opts.length + (makeP 167772161 3 1 0 p.bytes).data.length := by
      rw [Pkt.bytes, List.length_append, head_len]
    omega
  obtain ⟨_, q2⟩ := read6_all (p := wrapP own peer (makeP 167772161 3 1 0 p.bytes).bytes) (wrap_fine hl) ⟨ho, hp⟩
  have e : (ofR own kind rest (wrapP own peer (makeP 167772161 3 1 0 p.bytes).bytes).bytes).inner = (makeP 167772161 3 1 0 p.bytes).bytes := by
    unfold ofR
    rw [if_pos he]
    unfold ofT
    simp only
    rw [q2]
    unfold innerL
    rw [if_pos (show (wrapP own peer (makeP 167772161 3 1 0 p.bytes).bytes).nx = 4 from rfl)]
    rfl
  rw [e]
  unfold makeE
  rw [if_neg (by rw [hb]; simp)]

theorem ofR_len {own l : List UInt8} {k r : Int} : (ofR own k r l).inner.length ≤ l.length := by
  unfold ofR
  split
  · show (innerL (field6 l)).length ≤ _
    unfold innerL
    have : (field6 l).data.length ≤ l.length := by simp only [field6, List.length_take, List.length_drop]; omega
    split
    · exact this
    · rw [List.length_drop]; omega
  · simp [Told.zero]
end Gp.V4
