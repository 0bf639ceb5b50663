/- A table does any calls in any order as the document says: the law HashLives returns true at every input and leaves the input as it was. No condition. -/
import Derived.Test.YtcnkafgimclghaaHVRow
import Derived.Test.YtcnkafgimclghaaHL7
import Derived.Test.YtcnkafgimclghaaIn2
namespace Go.Proofs.Ytcnkafgimclghaa
open Gp
set_option maxRecDepth 100000

theorem hash_lives : Rows.HashLivesSaid := hashLives_said fun x0 x1 w _ h1 => by
  have hs : SlN 3 eD w x1.1 (x1.2.map fun y : Int × ByteArray × Int × Unit => (y.1, y.2.1, y.2.2.1)) := sln_in (by decide) h1 (fun y : Int × ByteArray × Int × Unit => (y.1, y.2.1, y.2.2.1)) eD eD_len fun y hy => rfl
  exact Calls.mono (lives18_ok x0 hs) fun _ _ ⟨_, he, hr, hf⟩ => ⟨by rw [he, hr], hf⟩
end Go.Proofs.Ytcnkafgimclghaa
