import Derived.Test.YtidjebbkjljcjaaGreatRelPure2
/- A packet of version six in fragments, and together again: no program in sight. -/
namespace Gp.V4

/-- The parts of data: where they begin, whether more follow. -/
def chunkL (most size : Nat) (D : List UInt8) : Nat → Nat → List (Nat × Bool × List UInt8)
  | 0, _ => []
  | k + 1, at_ => if D.length - at_ > most then (at_, true, (D.drop at_).take size) :: chunkL most size D k (at_ + size) else [(at_, false, D.drop at_)]

theorem chunk_cat {most size : Nat} {D : List UInt8} (h0 : 0 < size) (hs : size ≤ most) : ∀ {k at_ : Nat}, D.length - at_ < k * size → (chunkL most size D k at_).flatMap (·.2.2) = D.drop at_
  | 0, at_, h => by omega
  | k + 1, at_, h => by
    unfold chunkL
    split
    · rw [List.flatMap_cons, chunk_cat h0 hs (k := k) (at_ := at_ + size) (by rw [Nat.add_mul] at h; omega), ← List.drop_drop, List.take_append_drop]
    · simp

structure ChunkOk (most : Nat) (D : List UInt8) (x : Nat × Bool × List UInt8) : Prop where
  le : x.2.2.length ≤ most
  at_ : x.1 ≤ D.length
  unit : x.1 % 8 = 0
  lt : x.1 + x.2.2.length ≤ D.length
  cut : (D.take (x.1 + x.2.2.length)).drop x.1 = x.2.2

theorem chunk_ok {most size : Nat} {D : List UInt8} (hs : size ≤ most) (h8 : size % 8 = 0) : ∀ {k at_ : Nat}, at_ ≤ D.length → at_ % 8 = 0 → ∀ x ∈ chunkL most size D k at_, ChunkOk most D x
  | 0, _, _, _, x, hx => by simp [chunkL] at hx
  | k + 1, at_, ha, hu, x, hx => by
    unfold chunkL at hx
    split at hx
    · rename_i hm
      rcases List.mem_cons.1 hx with rfl | hx
      · have e : ((D.drop at_).take size).length = size := by rw [List.length_take, List.length_drop]; omega
        refine ⟨by simp only [List.length_take]; omega, ha, hu, by simp only [e]; omega, ?_⟩
        simp only [e]
        rw [List.drop_take, show at_ + size - at_ = size by omega]
      · exact chunk_ok hs h8 (by omega) (by omega) x hx
    · rename_i hm
      rcases List.mem_cons.1 hx with rfl | hx
      · have e : at_ + (D.drop at_).length = D.length := by rw [List.length_drop]; omega
        refine ⟨by simp only [List.length_drop]; omega, ha, hu, by simp only [e]; omega, ?_⟩
        simp only [e, List.take_length]
      · simp at hx

theorem chunk_len {most size : Nat} {D : List UInt8} : ∀ {k at_ : Nat}, (chunkL most size D k at_).length ≤ k
  | 0, _ => by simp [chunkL]
  | k + 1, at_ => by
    unfold chunkL
    split
    · have := chunk_len (most := most) (size := size) (D := D) (k := k) (at_ := at_ + size)
      simp only [List.length_cons]; omega
    · simp

/-- A fragment's header. -/
def fragH (nx off : Nat) (more : Bool) (id : Nat) : List UInt8 := [UInt8.ofNat nx, 0] ++ beN 2 (off + if more then 1 else 0) ++ beN 4 id
theorem fragH_len (nx off : Nat) (more : Bool) (id : Nat) : (fragH nx off more id).length = 8 := by simp [fragH, beN_len]

def fragOf (p : Pk6) (id : Nat) (x : Nat × Bool × List UInt8) : Pk6 := { p with nx := 44, data := fragH p.nx.toNat x.1 x.2.1 id ++ x.2.2 }

/-- A packet in fragments. -/
def cutL (p : Pk6) (id mtu : Nat) : List Pk6 :=
  if 40 + p.data.length ≤ mtu then [p] else (chunkL (mtu - 48) ((mtu - 48) / 8 * 8) p.data (p.data.length + 1) 0).map (fragOf p id)

/-- What one has within. -/
def partOf (q : Pk6) : List UInt8 := if q.nx = 44 then q.data.drop 8 else q.data

theorem part_frag (p : Pk6) (id : Nat) (x : Nat × Bool × List UInt8) : partOf (fragOf p id x) = x.2.2 := by
  unfold partOf fragOf
  rw [if_pos rfl]
  show (fragH _ _ _ _ ++ x.2.2).drop 8 = _
  rw [List.drop_left' (fragH_len ..)]

theorem cutL_len (p : Pk6) (id mtu : Nat) : (cutL p id mtu).length ≤ p.data.length + 1 := by
  unfold cutL
  split
  · simp
  · rw [List.length_map]; exact chunk_len

structure CutOk (p : Pk6) (mtu : Nat) (q : Pk6) : Prop where
  check : q.check = 0
  src : q.src = p.src
  dst : q.dst = p.dst
  hp : q.hp = p.hp
  len : 40 + q.data.length ≤ mtu
  frag : q.nx = 44 → 8 ≤ q.data.length

theorem cut_cat {p : Pk6} {id mtu : Nat} (hm : 1280 ≤ mtu) (hn : p.nx ≠ 44) : (cutL p id mtu).flatMap partOf = p.data := by
  unfold cutL
  split
  · simp [partOf, hn]
  · rw [List.flatMap_map]
    have := chunk_cat (most := mtu - 48) (size := (mtu - 48) / 8 * 8) (D := p.data) (by omega) (by omega) (k := p.data.length + 1) (at_ := 0) (by
      have h1 : (p.data.length + 1) * 1 ≤ (p.data.length + 1) * ((mtu - 48) / 8 * 8) := Nat.mul_le_mul_left _ (by omega)
      omega)
    rw [List.drop_zero] at this
    simp only [part_frag]
    exact this

theorem cut_ok {p : Pk6} {id mtu : Nat} (hm : 1280 ≤ mtu) (hM : mtu ≤ 65535) (hc : p.check = 0) (hn : p.nx ≠ 44) : ∀ q ∈ cutL p id mtu, CutOk p mtu q := by
  intro q hq
  obtain ⟨⟨⟨f1, f2, f3⟩, f4, f5⟩, f6⟩ := check6_zero hc
  unfold cutL at hq
  split at hq
  · obtain rfl : q = p := by simpa using hq
    exact ⟨hc, rfl, rfl, rfl, by assumption, fun h => absurd h hn⟩
  · obtain ⟨x, hx, rfl⟩ := List.mem_map.1 hq
    have ok := chunk_ok (most := mtu - 48) (size := (mtu - 48) / 8 * 8) (by omega) (by omega) (Nat.zero_le _) rfl x hx
    have hl : (fragOf p id x).data.length = 8 + x.2.2.length := by
      show (fragH _ _ _ _ ++ x.2.2).length = _
      rw [List.length_append, fragH_len]
    have := ok.le
    refine ⟨?_, rfl, rfl, rfl, by omega, fun _ => by omega⟩
    unfold Pk6.check
    rw [if_pos ⟨⟨f1, ⟨⟨by omega, by omega⟩, by simp [fragOf], by simp [fragOf]⟩, f3⟩, f4, f5⟩, if_pos (by omega)]

/-- What was built is read whole. -/
theorem read6_whole {p : Pk6} (h : p.check = 0) (ho : p.ok) : read6E p.bytes false = 0 ∧ field6 p.bytes = p := by
  obtain ⟨h1, h2⟩ := read6_all h ho
  refine ⟨?_, h2⟩
  have hl := bytes6_len ho
  have hn : num p.bytes 4 2 = p.data.length ∨ num p.bytes 4 2 ≤ p.bytes.length - 40 := by
    have := congrArg (fun q : Pk6 => q.data.length) h2
    simp only [field6, List.length_take, List.length_drop] at this
    -- the length that is told may be more only if it is cut off
    by_cases hc : num p.bytes 4 2 ≤ p.bytes.length - 40
    · exact .inr hc
    · left
      obtain ⟨_, _, hN⟩ : True ∧ True ∧ num p.bytes 4 2 = p.data.length := by
        refine ⟨trivial, trivial, ?_⟩
        have hh := head6_len p
        rw [Pk6.bytes, num_pre (by omega), Pk6.head, num_pre (by simp [beN_len])]
        unfold num
        rw [List.drop_append_of_le_length (by rw [beN_len]; omega), List.drop_of_length_le (by rw [beN_len]; omega), List.nil_append, List.take_of_length_le (by rw [beN_len]; omega), numBE_beN]
        exact Nat.mod_eq_of_lt (by have := (check6_zero h).2; omega)
      exact hN
  unfold read6E at h1 ⊢
  split at h1
  · omega
  rename_i c1
  split at h1
  · omega
  rename_i c2
  rw [if_neg c1, if_neg c2, if_neg (by omega)]
end Gp.V4
