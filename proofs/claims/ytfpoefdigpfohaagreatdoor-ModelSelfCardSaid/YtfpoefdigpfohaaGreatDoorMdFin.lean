/- A view that may be may follow itself, behind any event: the law ModelSelf returns true at every input and leaves the input as it was. No condition but the tied card's. -/
import Derived.Test.YtfpoefdigpfohaaGreatDoorMdRow
import Derived.Test.YtfpoefdigpfohaaGreatDoorW11
namespace Go.Proofs.YtfpoefdigpfohaaGreatDoor
open Gp
set_option maxRecDepth 100000
abbrev Uy : bG := .arr 16 (.int .u8) 1
abbrev RJ : bG := .agg (.cons (.agg (.cons (.int .i64) 1 (.cons (.int .i64) 1 (.cons (.int .i64) 1 (.cons (.int .i64) 1 .nil))))) 4 (.cons (.agg (.cons (.int .i64) 1 (.cons (.int .i64) 1 (.cons (.int .i64) 1 .nil)))) 3 .nil))
abbrev Sz : bG := .agg (.cons (.agg (.cons (.int .i64) 1 (.cons (.int .i64) 1 (.cons (.int .i64) 1 (.cons (.int .i64) 1 .nil))))) 4 (.cons (.agg (.cons (.int .i64) 1 (.cons (.int .i64) 1 (.cons (.int .i64) 1 .nil)))) 3 (.cons .bool 1 .nil)))
abbrev RQ : bG := .agg (.cons (.int .i64) 1 (.cons (.int .i64) 1 (.cons (.int .i64) 1 (.cons (.agg (.cons (.int .i64) 1 (.cons (.int .i64) 1 .nil))) 2 .nil))))
def UF (x : Sz.T) : T8 := (x.1.1, x.1.2.1, x.1.2.2.1, x.1.2.2.2.1, x.2.1.1, x.2.1.2.1, x.2.1.2.2.1, x.2.2.1, ())
def Uk (x : RQ.T) : T5 := (x.1, x.2.1, x.2.2.1, x.2.2.2.1.1, x.2.2.2.1.2.1, ())
def T_ (l : List Int) : lg := (l.getD 0 0, l.getD 1 0, l.getD 2 0, l.getD 3 0, l.getD 4 0, l.getD 5 0, l.getD 6 0, l.getD 7 0, l.getD 8 0, l.getD 9 0, l.getD 10 0, l.getD 11 0, l.getD 12 0, l.getD 13 0, l.getD 14 0, l.getD 15 0, ())
def UD (x : RJ.T) : T7 := (x.1.1, x.1.2.1, x.1.2.2.1, x.1.2.2.2.1, x.2.1.1, x.2.1.2.1, x.2.1.2.2.1, ())
theorem Hz {l : List Int} (h : l.length = 16) : ∃ p0 p1 p2 p3 p4 p5 p6 p7 p8 p9 p10 p11 p12 p13 p14 p15 : Int, l = [p0, p1, p2, p3, p4, p5, p6, p7, p8, p9, p10, p11, p12, p13, p14, p15] := by
  match l, h with
  | [p0, p1, p2, p3, p4, p5, p6, p7, p8, p9, p10, p11, p12, p13, p14, p15], _ => exact ⟨p0, p1, p2, p3, p4, p5, p6, p7, p8, p9, p10, p11, p12, p13, p14, p15, rfl⟩
theorem SX {w : World} {x : (bG.slice Uy 16).T} (h : (bG.slice Uy 16).In w x) : dQ 16 e16 w x.1 (x.2.map T_) :=
  CJ (by decide) h T_ e16 l7 fun y hy => by
    obtain ⟨p0, p1, p2, p3, p4, p5, p6, p7, p8, p9, p10, p11, p12, p13, p14, p15, rfl⟩ := Hz hy.1
    rfl
theorem Rw {w : World} {x : (bG.slice (.int .i64) 1).T} (h : (bG.slice (.int .i64) 1).In w x) : dQ 1 eI w x.1 (x.2.map fun y : Int => y) :=
  CJ (d := .int .i64) (by decide) h (fun y : Int => y) eI yw fun y hy => rfl
theorem SL {w : World} {x : (bG.slice RJ 7).T} (h : (bG.slice RJ 7).In w x) : dQ 7 e7 w x.1 (x.2.map UD) :=
  CJ (by decide) h UD e7 yR fun y hy => rfl
theorem SA {w : World} {x : (bG.slice Sz 8).T} (h : (bG.slice Sz 8).In w x) : dQ 8 e8 w x.1 (x.2.map UF) :=
  CJ (by decide) h UF e8 vw fun y hy => rfl
theorem RU {w : World} {x : (bG.slice RQ 5).T} (h : (bG.slice RQ 5).In w x) : dQ 5 e5 w x.1 (x.2.map Uk) :=
  CJ (by decide) h Uk e5 Oq fun y hy => rfl
theorem model_self : Rows.ModelSelfCardSaid := CY fun x0 x1 x2 w h0 h1 h2 => by
  obtain ⟨l0, x16, x17, n18, n19, n20, n21, n22, n23, n24, n25, n26, n27, n28, n29, n30, n31, n32, n33, n34, x35, ⟨⟩⟩ := x0
  obtain ⟨hl, h16, h17, _, _, _, _, _, _, _, _, _, _, _, _, _, _, _, _, _, h35, _⟩ := h0
  obtain ⟨p0, p1, p2, p3, p4, p5, p6, p7, p8, p9, p10, p11, p12, p13, p14, p15, rfl⟩ := Hz hl.1
  obtain ⟨v0, vb, vs, v3, v4, v5, vc, ⟨⟩⟩ := x1
  obtain ⟨_, hb, hs, _, _, _, hc, _⟩ := h1
  obtain ⟨c0, c1, c2, s, ⟨⟩⟩ := x2
  obtain ⟨_, _, _, hd, _⟩ := h2
  obtain ⟨l, hd⟩ := RG hd
  exact Calls.mono (FQ NI (SX h16) (Rw h17) (SL h35) (SA hb) (RU hs) hd) fun _ _ ⟨_, he, hr, hf⟩ => ⟨by rw [he, hr]; rfl, hf⟩
end Go.Proofs.YtfpoefdigpfohaaGreatDoor
