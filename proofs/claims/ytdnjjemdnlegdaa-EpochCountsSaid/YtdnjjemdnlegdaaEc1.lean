/-
  The law EpochCounts: the plain facts.
-/
import Derived.Test.YtdnjjemdnlegdaaDl4
import Derived.Test.YtdnjjemdnlegdaaEl2
import Derived.Test.YtdnjjemdnlegdaaEp5
namespace Go.Proofs.Ytdnjjemdnlegdaa
set_option linter.unusedVariables false
set_option linter.unusedSimpArgs false
open Go Go.RowKit

/-- What the law's disk is: its counter tells n; a byte ahead is 'x', a byte behind is 0. -/
structure Five (d : Dk.D) (n : Nat) : Prop where
  off : d.off = false
  left : d.left = -1
  len : d.b.length = 640
  at_ : Ep.At d 1 3 n
  first : d.b.getD 0 0 = 120
  last : d.b.getD 512 0 = 0
theorem five_put (n : Nat) (hn : n ≤ 384) : ∃ d1 d2, Dk.putAt (Dk.fresh 5) 128 (frontL n 384) = (d1, 0) ∧ Dk.putAt d1 0 [120] = (d2, 0) ∧ Five d2 n := by
  have hl : (Dk.fresh 5).b.length = 640 := by unfold Dk.fresh; rw [List.length_replicate]
  have hf := frontL_length n 384
  have hl1 : (splice (Dk.fresh 5).b 128 (frontL n 384)).length = 640 := by rw [Dk.splice_length _ _ _ (by omega), hl]
  have h1 : Dk.putAt (Dk.fresh 5) 128 (frontL n 384) = ({ Dk.fresh 5 with b := splice (Dk.fresh 5).b 128 (frontL n 384) }, 0) := by
    unfold Dk.putAt
    rw [if_neg (by rw [hl, hf]; omega)]
    rfl
  have h2 : Dk.putAt { Dk.fresh 5 with b := splice (Dk.fresh 5).b 128 (frontL n 384) } 0 [120] = ({ Dk.fresh 5 with b := splice (splice (Dk.fresh 5).b 128 (frontL n 384)) 0 [120] }, 0) := by
    unfold Dk.putAt
    rw [if_neg (by simp only [hl1, List.length_singleton]; omega)]
    rfl
  have hg : ∀ j, (splice (splice (Dk.fresh 5).b 128 (frontL n 384)) 0 [120]).getD j 0 = if j = 0 then 120 else if 128 ≤ j ∧ j < 512 ∧ j - 128 < n then 1 else 0 := by
    intro j
    have hz : (Dk.fresh 5).b.getD j 0 = 0 := by
      unfold Dk.fresh
      rw [List.getD, List.getElem?_replicate]
      split <;> rfl
    rw [Dk.splice_getD _ _ _ _ (by rw [hl1]; decide), Dk.splice_getD _ _ _ _ (by omega)]
    rw [hz]
    by_cases h0 : j = 0
    · subst h0
      rfl
    · rw [if_neg (by simp only [List.length_singleton]; omega), if_neg h0, hf]
      by_cases h1 : 128 ≤ j ∧ j < 128 + 384
      · rw [if_pos h1, frontL_getD _ _ _ (by omega)]
        by_cases h2 : j - 128 < n
        · rw [if_pos h2, if_pos (by omega)]
        · rw [if_neg h2, if_neg (by omega)]
      · rw [if_neg h1, if_neg (by omega)]
  refine ⟨_, _, h1, h2, rfl, rfl, by show (splice _ 0 [120]).length = 640; rw [Dk.splice_length _ _ _ (by rw [hl1]; decide), hl1], ⟨?_, by omega, fun j hj => ?_⟩, ?_, ?_⟩
  · show (1 + 3) * 128 ≤ (splice _ 0 [120]).length
    rw [Dk.splice_length _ _ _ (by rw [hl1]; decide), hl1]
    decide
  · show (splice _ 0 [120]).getD _ 0 = _
    rw [hg, if_neg (by omega)]
    by_cases h : j < n
    · rw [if_pos h, if_pos (by omega)]
    · rw [if_neg h, if_neg (by omega)]
  · show (splice _ 0 [120]).getD _ 0 = _
    rw [hg]
    rfl
  · show (splice _ 0 [120]).getD _ 0 = _
    rw [hg]
    rfl
end Go.Proofs.Ytdnjjemdnlegdaa
