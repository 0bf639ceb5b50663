/- Who is armed goes off when the time has come, and neither ahead of it nor twice; and it does not matter in how many steps time passes: the laws WheelOnce and WheelSteps return true at every input and leave the input as it was. No condition. -/
import Derived.Test.YtjllddbdblccgaaWHRow
import Derived.Test.YtjllddbdblccgaaWh6
import Derived.Test.YtjllddbdblccgaaIn2
namespace Go.Proofs.Ytjllddbdblccgaa
open Gp
set_option maxRecDepth 100000

theorem wheel_once : Rows.WheelOnceSaid := wheelOnce_said fun (x0 : Int) x1 w h0 h1 => by
  have g0 : 0 ≤ x0 ∧ x0 ≤ 4294967295 := wf_u32 h0
  refine Calls.mono (once17_ok (at_ := x0) (xs := x1.2.map fun n : Int => n) ⟨g0.1, by have := g0.2; omega⟩ (sln_in (by decide) h1 (fun n : Int => n) e32 e32_len fun y hy => rfl) fun x hx => ?_) fun _ _ ⟨_, he, hr, hf⟩ => ⟨by rw [he, hr], hf⟩
  obtain ⟨y, hy, rfl⟩ := List.mem_map.1 hx
  have := wf_u32 (h1.2 y hy)
  exact ⟨this.1, by omega⟩

theorem wheel_steps : Rows.WheelStepsSaid := wheelSteps_said fun x0 (x1 : Int) w h0 h1 => by
  have g0 : 0 ≤ x1 ∧ x1 ≤ 255 := wf_u8 h1
  refine Calls.mono (steps17_ok (by_ := x1) (xs := x0.2.map fun n : Int => n) ⟨g0.1, by have := g0.2; omega⟩ (sln_in (by decide) h0 (fun n : Int => n) e16 e16_len fun y hy => rfl) fun x hx => ?_) fun _ _ ⟨_, he, hr, hf⟩ => ⟨by rw [he, hr], hf⟩
  obtain ⟨y, hy, rfl⟩ := List.mem_map.1 hx
  have := wf_u16 (h0.2 y hy)
  exact ⟨this.1, by omega⟩
end Go.Proofs.Ytjllddbdblccgaa
