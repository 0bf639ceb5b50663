/- What has no bindings and no sessions may be, of any settings that may be; of a view that may be each outer endpoint has one owner, the softwire of its binding: the laws ViewEmpty and ViewOwns return true at every input and leave the input as it was. No condition. -/
import Derived.Test.YtjejhaefbhbghaaVWRow
import Derived.Test.YtjejhaefbhbghaaViewX
import Derived.Test.YtjejhaefbhbghaaIn2
namespace Go.Proofs.Ytjejhaefbhbghaa
open Gp
set_option maxRecDepth 100000

abbrev sixD : Desc := .arr 16 (.int .u8) 1
abbrev staD : Desc := .agg (.cons (.agg (.cons (.int .i64) 1 (.cons (.int .i64) 1 (.cons (.int .i64) 1 (.cons (.int .i64) 1 .nil))))) 4 (.cons (.agg (.cons (.int .i64) 1 (.cons (.int .i64) 1 (.cons (.int .i64) 1 .nil)))) 3 .nil))
abbrev bndD : Desc := .agg (.cons (.agg (.cons (.int .i64) 1 (.cons (.int .i64) 1 (.cons (.int .i64) 1 (.cons (.int .i64) 1 .nil))))) 4 (.cons (.agg (.cons (.int .i64) 1 (.cons (.int .i64) 1 (.cons (.int .i64) 1 .nil)))) 3 (.cons .bool 1 .nil)))
abbrev sesD : Desc := .agg (.cons (.int .i64) 1 (.cons (.int .i64) 1 (.cons (.int .i64) 1 (.cons (.agg (.cons (.int .i64) 1 (.cons (.int .i64) 1 .nil))) 2 .nil))))
def bndG (x : bndD.T) : T8 := (x.1.1, x.1.2.1, x.1.2.2.1, x.1.2.2.2.1, x.2.1.1, x.2.1.2.1, x.2.1.2.2.1, x.2.2.1, ())
def sesG (x : sesD.T) : T5 := (x.1, x.2.1, x.2.2.1, x.2.2.2.1.1, x.2.2.2.1.2.1, ())
def sixG (l : List Int) : T16 := (l.getD 0 0, l.getD 1 0, l.getD 2 0, l.getD 3 0, l.getD 4 0, l.getD 5 0, l.getD 6 0, l.getD 7 0, l.getD 8 0, l.getD 9 0, l.getD 10 0, l.getD 11 0, l.getD 12 0, l.getD 13 0, l.getD 14 0, l.getD 15 0, ())
def staG (x : staD.T) : T7 := (x.1.1, x.1.2.1, x.1.2.2.1, x.1.2.2.2.1, x.2.1.1, x.2.1.2.1, x.2.1.2.2.1, ())

theorem six_list {l : List Int} (h : l.length = 16) : ∃ p0 p1 p2 p3 p4 p5 p6 p7 p8 p9 p10 p11 p12 p13 p14 p15 : Int, l = [p0, p1, p2, p3, p4, p5, p6, p7, p8, p9, p10, p11, p12, p13, p14, p15] := by
  match l, h with
  | [p0, p1, p2, p3, p4, p5, p6, p7, p8, p9, p10, p11, p12, p13, p14, p15], _ => exact ⟨p0, p1, p2, p3, p4, p5, p6, p7, p8, p9, p10, p11, p12, p13, p14, p15, rfl⟩

theorem six_in {w : World} {x : (Desc.slice sixD 16).T} (h : (Desc.slice sixD 16).In w x) : SlN 16 e16 w x.1 (x.2.map sixG) :=
  sln_in (by decide) h sixG e16 e16_len fun y hy => by
    obtain ⟨p0, p1, p2, p3, p4, p5, p6, p7, p8, p9, p10, p11, p12, p13, p14, p15, rfl⟩ := six_list hy.1
    rfl

theorem int_in {w : World} {x : (Desc.slice (.int .i64) 1).T} (h : (Desc.slice (.int .i64) 1).In w x) : SlN 1 eI w x.1 (x.2.map fun y : Int => y) :=
  sln_in (d := .int .i64) (by decide) h (fun y : Int => y) eI eI_len fun y hy => rfl

theorem sta_in {w : World} {x : (Desc.slice staD 7).T} (h : (Desc.slice staD 7).In w x) : SlN 7 e7 w x.1 (x.2.map staG) :=
  sln_in (by decide) h staG e7 e7_len fun y hy => rfl

theorem bnd_in {w : World} {x : (Desc.slice bndD 8).T} (h : (Desc.slice bndD 8).In w x) : SlN 8 e8 w x.1 (x.2.map bndG) :=
  sln_in (by decide) h bndG e8 e8_len fun y hy => rfl

theorem ses_in {w : World} {x : (Desc.slice sesD 5).T} (h : (Desc.slice sesD 5).In w x) : SlN 5 e5 w x.1 (x.2.map sesG) :=
  sln_in (by decide) h sesG e5 e5_len fun y hy => rfl

theorem view_empty : Rows.ViewEmptySaid := viewEmpty_said fun x0 x1 w h0 h1 => by
  obtain ⟨l0, x16, x17, n18, n19, n20, n21, n22, n23, n24, n25, n26, n27, n28, n29, n30, n31, n32, n33, n34, x35, ⟨⟩⟩ := x0
  obtain ⟨hl, h16, h17, _, _, _, _, _, _, _, _, _, _, _, _, _, _, _, _, _, h35, _⟩ := h0
  obtain ⟨p0, p1, p2, p3, p4, p5, p6, p7, p8, p9, p10, p11, p12, p13, p14, p15, rfl⟩ := six_list hl.1
  exact Calls.mono (empty_ok (six_in h16) (int_in h17) (sta_in h35)) fun _ _ ⟨_, he, hr, hf⟩ => ⟨by rw [he, hr], hf⟩

theorem view_owns : Rows.ViewOwnsSaid := viewOwns_said fun x0 x1 w h0 h1 => by
  obtain ⟨l0, x16, x17, n18, n19, n20, n21, n22, n23, n24, n25, n26, n27, n28, n29, n30, n31, n32, n33, n34, x35, ⟨⟩⟩ := x0
  obtain ⟨hl, h16, h17, _, _, _, _, _, _, _, _, _, _, _, _, _, _, _, _, _, h35, _⟩ := h0
  obtain ⟨p0, p1, p2, p3, p4, p5, p6, p7, p8, p9, p10, p11, p12, p13, p14, p15, rfl⟩ := six_list hl.1
  obtain ⟨v0, vb, vs, v3, v4, v5, vc, ⟨⟩⟩ := x1
  obtain ⟨_, hb, hs, _, _, _, hc, _⟩ := h1
  exact Calls.mono (owns_ok (six_in h16) (int_in h17) (sta_in h35) (bnd_in hb) (ses_in hs)) fun _ _ ⟨_, he, hr, hf⟩ => ⟨by rw [he, hr], hf⟩
end Go.Proofs.Ytjejhaefbhbghaa
