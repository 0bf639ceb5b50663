/- What any message tells of what was sent, and to whom, is what the document says, or nothing: the laws RelayTable, RelayReaches, RelayOnce and RelayTells return true at every input and leave the input as it was. No condition. -/
import Derived.Test.YtcnkafgimclghaaRLRow
import Derived.Test.YtcnkafgimclghaaRL8
import Derived.Test.YtcnkafgimclghaaIn
namespace Go.Proofs.Ytcnkafgimclghaa
open Gp Gp.V4
set_option maxRecDepth 100000

abbrev sixR : Desc := .arr 16 (.int .u8) 1

theorem six_list {l : List Int} (h : l.length = 16) : ∃ p0 p1 p2 p3 p4 p5 p6 p7 p8 p9 p10 p11 p12 p13 p14 p15 : Int, l = [p0, p1, p2, p3, p4, p5, p6, p7, p8, p9, p10, p11, p12, p13, p14, p15] := by
  match l, h with
  | [p0, p1, p2, p3, p4, p5, p6, p7, p8, p9, p10, p11, p12, p13, p14, p15], _ => exact ⟨p0, p1, p2, p3, p4, p5, p6, p7, p8, p9, p10, p11, p12, p13, p14, p15, rfl⟩

theorem two_list {l : List Int} (h : l.length = 2) : ∃ p q : Int, l = [p, q] := by
  match l, h with
  | [p, q], _ => exact ⟨p, q, rfl⟩

theorem six_bytes {w : World} {x : sixR.T} (h : sixR.In w x) : ∃ m : List UInt8, (show List Int from x) = bi m ∧ m.length = 16 := by
  obtain ⟨h1, h2⟩ := h
  obtain ⟨m, e, hl⟩ := of_ints (show List Int from x) fun y hy => wf_u8 (h2 y hy)
  exact ⟨m, e, hl.trans h1⟩

theorem relay_table : Rows.RelayTableSaid := relayTable_said fun a b c w _ _ h => by
  exact Calls.mono (table30_ok a b c (wf_i64 h) w) fun _ _ ⟨_, he, hr, hf⟩ => ⟨by rw [he, hr], hf⟩

theorem relay_reaches : Rows.RelayReachesSaid := relayReaches_said fun x0 x1 x2 x3 x4 x5 w h0 h1 h2 h3 h4 h5 => by
  obtain ⟨own, ea, ho⟩ := six_bytes h0
  obtain ⟨peer, eb, hp⟩ := six_bytes h1
  obtain ⟨a0, a1, a2, a3, a4, a5, a6, a7, a8, a9, a10, a11, a12, a13, a14, a15, rfl⟩ := six_list h0.1
  obtain ⟨b0, b1, b2, b3, b4, b5, b6, b7, b8, b9, b10, b11, b12, b13, b14, b15, rfl⟩ := six_list h1.1
  obtain ⟨p, q, rfl⟩ := two_list h2.1
  have hx := wf_u16 (h2.2 p (List.mem_cons_self ..))
  have hy := wf_u16 (h2.2 q (List.mem_cons_of_mem _ (List.mem_cons_self ..)))
  obtain ⟨l, h⟩ := slb_in h3
  exact Calls.mono (reaches_ok ho hp ea eb hx hy h (wf_u16 h4) (wf_u8 h5)) fun _ _ ⟨_, he, hr, hf⟩ => ⟨by rw [he, hr], hf⟩

theorem relay_once : Rows.RelayOnceSaid := relayOnce_said fun x0 x1 x2 x3 w h0 h1 h2 _ => by
  obtain ⟨own, ea, ho⟩ := six_bytes h0
  obtain ⟨peer, eb, hp⟩ := six_bytes h1
  obtain ⟨a0, a1, a2, a3, a4, a5, a6, a7, a8, a9, a10, a11, a12, a13, a14, a15, rfl⟩ := six_list h0.1
  obtain ⟨b0, b1, b2, b3, b4, b5, b6, b7, b8, b9, b10, b11, b12, b13, b14, b15, rfl⟩ := six_list h1.1
  obtain ⟨m0, m1, m2, s, ⟨⟩⟩ := x2
  exact Calls.mono (once30_ok ho hp ea eb m0 m1 m2 (wf_i64 h2.2.2.1) s.1 x3) fun _ _ ⟨_, he, hr, hf⟩ => ⟨by rw [he, hr], hf⟩

theorem relay_tells : Rows.RelayTellsSaid := relayTells_said fun x0 x1 x2 w h0 h1 _ => by
  obtain ⟨own, ea, ho⟩ := six_bytes h0
  obtain ⟨a0, a1, a2, a3, a4, a5, a6, a7, a8, a9, a10, a11, a12, a13, a14, a15, rfl⟩ := six_list h0.1
  obtain ⟨m0, m1, m2, s, ⟨⟩⟩ := x1
  obtain ⟨l, h⟩ := slb_in h1.2.2.2.1
  exact Calls.mono (tells30_ok ea m0 m1 m2 (wf_i64 h1.2.2.1) h x2) fun _ _ ⟨_, he, hr, hf⟩ => ⟨by rw [he, hr], hf⟩
end Go.Proofs.Ytcnkafgimclghaa
