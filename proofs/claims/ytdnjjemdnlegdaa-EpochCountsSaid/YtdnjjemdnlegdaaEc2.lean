/-
  The law EpochCounts: the state of its loop.
-/
import Derived.Test.YtdnjjemdnlegdaaEc1
namespace Go.Proofs.Ytdnjjemdnlegdaa
set_option linter.unusedVariables false
set_option linter.unusedSimpArgs false
open Go Go.RowKit

/-- The disk and its counter. -/
def CN (w : World) (p g c n : Nat) (wr : World) : Prop :=
  n ≤ 384 ∧ (∃ d, DiskAt wr p g d ∧ Five d n) ∧ CtrAt wr c p 1 384 ((n : Nat) : Int) ∧ Below w.heap.size w wr ∧ w.heap.size ≤ p ∧ w.heap.size ≤ g ∧ w.heap.size ≤ c ∧ c ≠ p ∧ c ≠ g
theorem CN.value {w : World} {p g c n : Nat} {wr : World} (h : CN w p g c n wr) : Calls Try.prog 43 #[.pointer (some ⟨c, 0, none⟩)] wr fun e w' => e = .returned (.int .i64 ((n : Nat) : Int)) ∧ wr = w' := ep_value h.2.2.1
theorem CN.next {w : World} {p g c n : Nat} {wr : World} (h : CN w p g c n wr) (hn : n < 384) : Calls Try.prog 42 #[.pointer (some ⟨c, 0, none⟩)] wr fun e w' => e = .returned (.int .i64 0) ∧ CN w p g c (n + 1) w' := by
  obtain ⟨_, ⟨d, hD, hF⟩, hC, hb, h1, h2, h3, h4, h5⟩ := h
  refine (ep_next_at hD 1 3 n hF.at_ hF.off (by rw [hF.left]; omega) hC (by omega) h4 h5).mono ?_
  rintro e w' ⟨he, d', k1, k2, k3, k4, k5, k6, k7, k8, k9⟩
  refine ⟨he, by omega, ⟨d', k1.out, k3.out, by rw [k4.out, hF.left]; rfl, by rw [k7.out, hF.len], k2.out, by rw [k6.out 0 (by omega), hF.first], by rw [k6.out 512 (by omega), hF.last]⟩, k8.out, hb.trans (kept_pgc k9.out h1 h2 h3 hb.size), h1, h2, h3, h4, h5⟩
theorem CN.full {w : World} {p g c : Nat} {wr : World} (h : CN w p g c 384 wr) : Calls Try.prog 42 #[.pointer (some ⟨c, 0, none⟩)] wr fun e w' => e = .returned (.int .i64 13) ∧ CN w p g c 384 w' := by
  obtain ⟨h0, ⟨d, hD, hF⟩, hC, hb, h1, h2, h3, h4, h5⟩ := h
  refine (ep_next_full hC).mono ?_
  rintro e w' ⟨he, hb2⟩
  exact ⟨he, h0, ⟨d, hD.below hb2 (Nat.le_refl _), hF⟩, hC.below hb2 (Nat.le_refl _), hb.trans (hb2.mono hb.size), h1, h2, h3, h4, h5⟩
/-- What the disk's bytes hold. -/
theorem Five.mid {d : Dk.D} {n : Nat} (h : Five d n) : (d.b.drop 128).take 384 = frontL n 384 := by
  apply List.ext_getElem?
  intro j
  by_cases hj : j < 384
  · have hl := h.len
    have hg := h.at_.get j hj
    rw [List.getElem?_take, if_pos hj, List.getElem?_drop, List.getElem?_eq_getElem (by omega), List.getElem?_eq_getElem (by rw [frontL_length]; omega)]
    have hf := frontL_getD n 384 j hj
    simp only [List.getD, List.getElem?_eq_getElem (show 128 + j < d.b.length by omega), List.getElem?_eq_getElem (show j < (frontL n 384).length by rw [frontL_length]; omega), Option.getD_some, Nat.mul_one] at hg hf
    rw [hg, hf]
  · rw [List.getElem?_eq_none (by simp; omega), List.getElem?_eq_none (by rw [frontL_length]; omega)]
end Go.Proofs.Ytdnjjemdnlegdaa
