/- Parts of a datagram, in any order, are answered and put together as the document says; where nothing came is what the document says; bytes that are cut anywhere are the bytes; parts that no call made take nothing: the laws HolesLive, HolesGaps, HolesOrder and HolesNobody return true at every input and leave the input as it was. No condition. -/
import Derived.Test.YtjllddbdblccgaaHORow
import Derived.Test.YtjllddbdblccgaaHolZ
import Derived.Test.YtjllddbdblccgaaIn2
namespace Go.Proofs.Ytjllddbdblccgaa
open Gp Gp.Hol
set_option maxRecDepth 100000

abbrev parD : Desc := .agg (.cons (.int .i64) 1 (.cons .bool 1 (.cons (.slice (.int .u8) 1) 1 .nil)))
def parG (x : parD.T) : P3 := (x.1, x.2.1, x.2.2.1.1, ())
def parP (x : parD.T) : Pc := (x.1, x.2.1, x.2.2.1.2.map fun n : Int => UInt8.ofNat n.toNat)

theorem par_in {w : World} {x : (Desc.slice parD 3).T} (h : (Desc.slice parD 3).In w x) : SlN 3 eP w x.1 (x.2.map parG) ∧ PcsAt w (x.2.map parG) (x.2.map parP) := by
  refine ⟨sln_in (by decide) h parG eP eP_len fun y hy => rfl, by rw [List.length_map, List.length_map], fun i u p hu hp => ?_⟩
  rw [List.getElem?_map] at hu hp
  obtain ⟨y, hy, rfl⟩ := Option.map_eq_some_iff.1 hu
  rw [hy] at hp
  cases hp
  have hin := h.2 y (List.mem_of_getElem? hy)
  exact ⟨rfl, rfl, slb_in2 hin.2.2.1⟩

theorem holes_gaps : Rows.HolesGapsSaid := holesGaps_said fun x0 w h0 =>
  Calls.mono (gapslaw_ok (par_in h0).1 (par_in h0).2) fun _ _ ⟨_, he, hr, hf⟩ => ⟨by rw [he, hr], hf⟩
theorem holes_live : Rows.HolesLiveSaid := holesLive_said fun x0 w h0 =>
  Calls.mono (live_ok (par_in h0).1 (par_in h0).2) fun _ _ ⟨_, he, hr, hf⟩ => ⟨by rw [he, hr], hf⟩
theorem holes_order : Rows.HolesOrderSaid := holesOrder_said fun x0 x1 w h0 h1 =>
  Calls.mono (order_law (slb_in2 h0) (slb_in2 h1)) fun _ _ ⟨_, he, hr, hf⟩ => ⟨by rw [he, hr], hf⟩
theorem holes_nobody : Rows.HolesNobodySaid := holesNobody_said fun x0 x1 x2 w h0 h1 h2 =>
  Calls.mono nobody15_ok fun _ _ ⟨_, he, hr, hf⟩ => ⟨by rw [he, hr], hf⟩
end Go.Proofs.Ytjllddbdblccgaa
