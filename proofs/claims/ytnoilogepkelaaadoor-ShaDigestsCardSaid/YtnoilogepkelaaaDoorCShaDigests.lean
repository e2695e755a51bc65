/-
  The tied card of ShaDigests.
-/
import Derived.Test.YtnoilogepkelaaaDoorRShaDigests
import Derived.Test.YtnoilogepkelaaaDoorTie
import Derived.Test.YtnoilogepkelaaaDoorCards
import Derived.SevenTiedAt
namespace Go.Proofs.YtnoilogepkelaaaDoor.cardShaDigests
open Go
theorem proved : Rows.ShaDigestsCardSaid :=
  Claim7.holds_tied_plain_at .later [] [.data, .data] true (true, "7a6ec62b16e8eff594300fbad7bbffdd2b98b027ed8fb16ef0f44a85b4f277cd") false
    rowShaDigests.proved (fun _ h => by cases h) (by kernel_rfl) (fun _ h => by cases h) shaDigests_row_tie rfl ⟨rfl, rfl⟩ (by kernel_rfl) rfl
    (fun f fn hf hfn => by
      obtain rfl : f = 6 := Option.some.inj ((show Tryd.prog.funcNamed "redwax/redwaxlaw01.ShaDigests" = some 6 by kernel_rfl).symm.trans hf) |>.symm
      obtain rfl : fn = Tryd.f6 := (Option.some.inj (Tryd.func6.symm.trans hfn)).symm
      exact ⟨by kernel_rfl, fun j t ht => by
        rw [Tryd.params6] at ht
        rcases j with _ | j
        · obtain rfl : t = 22 := by simpa using ht.symm
          exact (show Tryd.prog.wantsStandIn 22 = false by kernel_rfl)
        · simp at ht⟩)
    (by kernel_rfl)
end Go.Proofs.YtnoilogepkelaaaDoor.cardShaDigests
