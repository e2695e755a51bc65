/-
  The tied card of HmacKnown.
-/
import Derived.Test.YtnoilogepkelaaaDoorRHmacKnown
import Derived.Test.YtnoilogepkelaaaDoorTie
import Derived.Test.YtnoilogepkelaaaDoorCards
import Derived.SevenTiedAt
namespace Go.Proofs.YtnoilogepkelaaaDoor.cardHmacKnown
open Go
theorem proved : Rows.HmacKnownCardSaid :=
  Claim7.holds_tied_plain_at .later [] [.data, .data] true (true, "7a6ec62b16e8eff594300fbad7bbffdd2b98b027ed8fb16ef0f44a85b4f277cd") false
    rowHmacKnown.proved (fun _ h => by cases h) (by kernel_rfl) (fun _ h => by cases h) hmacKnown_row_tie rfl ⟨rfl, rfl⟩ (by kernel_rfl) rfl
    (fun f fn hf hfn => by
      obtain rfl : f = 13 := Option.some.inj ((show Tryd.prog.funcNamed "redwax/redwaxlaw02.HmacKnown" = some 13 by kernel_rfl).symm.trans hf) |>.symm
      obtain rfl : fn = Tryd.f13 := (Option.some.inj (Tryd.func13.symm.trans hfn)).symm
      exact ⟨by kernel_rfl, fun j t ht => by
        rw [Tryd.params13] at ht
        simp at ht⟩)
    (by kernel_rfl)
end Go.Proofs.YtnoilogepkelaaaDoor.cardHmacKnown
