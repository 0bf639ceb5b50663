/- What is told of faults: whatever numbers and bytes come in, the laws ErrsMake, ErrsQuote and ErrsOnce return true and leave the input as it was. No condition. -/
import Derived.Test.YtibalhhdladmbaaErrRow
import Derived.Test.YtibalhhdladmbaaErr3
import Derived.Test.YtibalhhdladmbaaIn
namespace Go.Proofs.Ytibalhhdladmbaa
open Gp Gp.V4

theorem errs_make : Rows.ErrsMakeSaid := errsMake_said fun a b c d x w _ _ _ _ h => by
  obtain ⟨l, h⟩ := slb_in h
  exact Calls.mono (emake_ok h a b c d) fun _ _ ⟨_, he, hr, hf⟩ => ⟨by rw [he, hr], hf⟩

theorem errs_quote : Rows.ErrsQuoteSaid := errsQuote_said fun a b c x w h1 h2 h3 h => by
  obtain ⟨l, h⟩ := slb_in h
  have h1 := wf_u32 h1
  have h2 := wf_u8 h2
  have h3 := wf_u8 h3
  exact Calls.mono (equote_ok (a := a) (b := b) (c := c) h ⟨h1.1, by omega⟩ ⟨h2.1, by omega⟩ ⟨h3.1, by omega⟩) fun _ _ ⟨_, he, hr, hf⟩ => ⟨by rw [he, hr], hf⟩

theorem errs_once : Rows.ErrsOnceSaid := errsOnce_said fun a b c d x w _ _ _ _ h => by
  obtain ⟨l, h⟩ := slb_in h
  exact Calls.mono (eonce_ok h a b c d) fun _ _ ⟨_, he, hr, hf⟩ => ⟨by rw [he, hr], hf⟩
end Go.Proofs.Ytibalhhdladmbaa
