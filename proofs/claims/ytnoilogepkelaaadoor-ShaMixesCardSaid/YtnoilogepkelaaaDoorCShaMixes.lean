/-
  The tied card of ShaMixes.
-/
import Derived.Test.YtnoilogepkelaaaDoorRShaMixes
import Derived.Test.YtnoilogepkelaaaDoorTie
import Derived.Test.YtnoilogepkelaaaDoorCards
import Derived.SevenTiedAt
namespace Go.Proofs.YtnoilogepkelaaaDoor.cardShaMixes
open Go
theorem proved : Rows.ShaMixesCardSaid :=
  Claim7.holds_tied_plain_at .later [] [.data, .data] true (true, "7a6ec62b16e8eff594300fbad7bbffdd2b98b027ed8fb16ef0f44a85b4f277cd") false
    rowShaMixes.proved (fun _ h => by cases h) (by kernel_rfl) (fun _ h => by cases h) shaMixes_row_tie rfl ⟨rfl, rfl⟩ (by kernel_rfl) rfl
    (fun f fn hf hfn => by
      obtain rfl : f = 5 := Option.some.inj ((show Tryd.prog.funcNamed "redwax/redwaxlaw01.ShaMixes" = some 5 by kernel_rfl).symm.trans hf) |>.symm
      obtain rfl : fn = Tryd.f5 := (Option.some.inj (Tryd.func5.symm.trans hfn)).symm
      exact ⟨by kernel_rfl, fun j t ht => by
        rw [Tryd.params5] at ht
        rcases j with _ | _ | _ | j
        · obtain rfl : t = 27 := by simpa using ht.symm
          exact (show Tryd.prog.wantsStandIn 27 = false by kernel_rfl)
        · obtain rfl : t = 29 := by simpa using ht.symm
          exact (show Tryd.prog.wantsStandIn 29 = false by kernel_rfl)
        · obtain rfl : t = 3 := by simpa using ht.symm
          exact (show Tryd.prog.wantsStandIn 3 = false by kernel_rfl)
        · simp at ht⟩)
    (by kernel_rfl)
end Go.Proofs.YtnoilogepkelaaaDoor.cardShaMixes
