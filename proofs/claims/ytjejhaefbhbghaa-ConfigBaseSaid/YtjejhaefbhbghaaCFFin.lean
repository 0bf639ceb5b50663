/- Whether settings may be, which softwire has an address and how long a session waits is what the document says; no session of settings that may be waits shorter than the standards ask for; the ordinary settings are the document's, each time new: the laws ConfigChecks, ConfigWaits and ConfigBase return true at every input and leave the input as it was. No condition. -/
import Derived.Test.YtjejhaefbhbghaaCFRow
import Derived.Test.YtjejhaefbhbghaaCfgC
import Derived.Test.YtjejhaefbhbghaaIn2
namespace Go.Proofs.Ytjejhaefbhbghaa
open Gp
set_option maxRecDepth 100000

abbrev sixD : Desc := .arr 16 (.int .u8) 1
abbrev staD : Desc := .agg (.cons (.agg (.cons (.int .i64) 1 (.cons (.int .i64) 1 (.cons (.int .i64) 1 (.cons (.int .i64) 1 .nil))))) 4 (.cons (.agg (.cons (.int .i64) 1 (.cons (.int .i64) 1 (.cons (.int .i64) 1 .nil)))) 3 .nil))
def sixG (l : List Int) : T16 := (l.getD 0 0, l.getD 1 0, l.getD 2 0, l.getD 3 0, l.getD 4 0, l.getD 5 0, l.getD 6 0, l.getD 7 0, l.getD 8 0, l.getD 9 0, l.getD 10 0, l.getD 11 0, l.getD 12 0, l.getD 13 0, l.getD 14 0, l.getD 15 0, ())
def staG (x : staD.T) : T7 := (x.1.1, x.1.2.1, x.1.2.2.1, x.1.2.2.2.1, x.2.1.1, x.2.1.2.1, x.2.1.2.2.1, ())

theorem six_list {l : List Int} (h : l.length = 16) : ∃ p0 p1 p2 p3 p4 p5 p6 p7 p8 p9 p10 p11 p12 p13 p14 p15 : Int, l = [p0, p1, p2, p3, p4, p5, p6, p7, p8, p9, p10, p11, p12, p13, p14, p15] := by
  match l, h with
  | [p0, p1, p2, p3, p4, p5, p6, p7, p8, p9, p10, p11, p12, p13, p14, p15], _ => exact ⟨p0, p1, p2, p3, p4, p5, p6, p7, p8, p9, p10, p11, p12, p13, p14, p15, rfl⟩

theorem six_in {w : World} {x : (Desc.slice sixD 16).T} (h : (Desc.slice sixD 16).In w x) : SlN 16 e16 w x.1 (x.2.map sixG) :=
  sln_in (by decide) h sixG e16 e16_len fun y hy => by
    obtain ⟨p0, p1, p2, p3, p4, p5, p6, p7, p8, p9, p10, p11, p12, p13, p14, p15, rfl⟩ := six_list hy.1
    rfl

theorem int_in {w : World} {x : (Desc.slice (.int .i64) 1).T} (h : (Desc.slice (.int .i64) 1).In w x) : SlN 1 eI w x.1 (x.2.map fun y : Int => y) :=
  sln_in (d := .int .i64) (by decide) h (fun y : Int => y) eI eI_len fun y hy => rfl

theorem sta_in {w : World} {x : (Desc.slice staD 7).T} (h : (Desc.slice staD 7).In w x) : SlN 7 e7 w x.1 (x.2.map staG) :=
  sln_in (by decide) h staG e7 e7_len fun y hy => rfl

theorem config_checks : Rows.ConfigChecksSaid := configChecks_said fun x0 x1 x2 x3 w h0 h1 h2 h3 => by
  obtain ⟨l0, x16, x17, n18, n19, n20, n21, n22, n23, n24, n25, n26, n27, n28, n29, n30, n31, n32, n33, n34, x35, ⟨⟩⟩ := x0
  obtain ⟨hl, h16, h17, _, _, _, _, _, _, _, _, _, _, _, _, _, _, _, _, _, h35, _⟩ := h0
  obtain ⟨p0, p1, p2, p3, p4, p5, p6, p7, p8, p9, p10, p11, p12, p13, p14, p15, rfl⟩ := six_list hl.1
  obtain ⟨q0, q1, q2, q3, q4, q5, q6, q7, q8, q9, q10, q11, q12, q13, q14, q15, rfl⟩ := six_list h1.1
  exact Calls.mono (checks_ok (six_in h16) (int_in h17) (sta_in h35) x2 x3) fun _ _ ⟨_, he, hr, hf⟩ => ⟨by rw [he, hr], hf⟩

theorem config_waits : Rows.ConfigWaitsSaid := configWaits_said fun x0 x1 w h0 h1 => by
  obtain ⟨l0, x16, x17, n18, n19, n20, n21, n22, n23, n24, n25, n26, n27, n28, n29, n30, n31, n32, n33, n34, x35, ⟨⟩⟩ := x0
  obtain ⟨hl, h16, h17, _, _, _, _, _, _, _, _, _, _, _, _, _, _, _, _, _, h35, _⟩ := h0
  obtain ⟨p0, p1, p2, p3, p4, p5, p6, p7, p8, p9, p10, p11, p12, p13, p14, p15, rfl⟩ := six_list hl.1
  exact Calls.mono (waits_ok (six_in h16) (int_in h17) (sta_in h35) x1) fun _ _ ⟨_, he, hr, hf⟩ => ⟨by rw [he, hr], hf⟩

theorem config_base : Rows.ConfigBaseSaid := configBase_said fun x0 x1 w h0 h1 => by
  obtain ⟨p0, p1, p2, p3, p4, p5, p6, p7, p8, p9, p10, p11, p12, p13, p14, p15, rfl⟩ := six_list h0.1
  exact Calls.mono (baselaw_ok w) fun _ _ ⟨_, he, hr, hf⟩ => ⟨by rw [he, hr], hf⟩
end Go.Proofs.Ytjejhaefbhbghaa
