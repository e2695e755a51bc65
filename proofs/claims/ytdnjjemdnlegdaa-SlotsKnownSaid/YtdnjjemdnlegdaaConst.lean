/-
  A constant text turned into bytes: a block that the run-time marks.
-/
import Derived.Test.YtdnjjemdnlegdaaKept
import Derived.Test.YtdnjjemdnlegdaaStr
namespace Go.Proofs.Ytdnjjemdnlegdaa
set_option linter.unusedVariables false
set_option linter.unusedSimpArgs false
open Go Go.RowKit
/-- The world with a constant text's bytes. -/
def konst (w : World) (xs : List (BitVec 8)) : World := markS (w.alloc (.cells (bytes xs) 5)) w.heap.size
theorem konst_size (w : World) (xs : List (BitVec 8)) : (konst w xs).heap.size = w.heap.size + 1 := by simp [konst, markS_size]
theorem konst_below (w : World) (xs : List (BitVec 8)) : Below w.heap.size w (konst w xs) := Below.markS ((Below.refl _ w).alloc (Nat.le_refl _) _) _ (Nat.le_refl _)
theorem konst_sl (w : World) (xs : List (BitVec 8)) (hl : xs.length ≤ 1000000) : SlB (konst w xs) (.slice (some ⟨w.heap.size, 0, none⟩) xs.length xs.length) xs :=
  .inr ⟨w.heap.size, 0, xs.length, rfl, Nat.le_refl _, by unfold maxLen; omega, by rw [konst_size]; omega, fun j hj => by
    unfold konst
    rw [markS_cell, cell_of_row _ _ _ _ _ _ (heap_alloc_new w _), Nat.zero_add, bytes_get? xs j hj]
    rfl⟩
theorem konst_conv (xs : List (BitVec 8)) (w : World) (n : Nat) : (convert 22 22 (.slice (some ⟨w.heap.size, 0, none⟩) n n)).run Try.prog (w.alloc (.cells (bytes xs) 5)) = .ok (.slice (some ⟨w.heap.size, 0, none⟩) n n) (konst w xs) :=
  run_convert_same (P := Try.prog) _ 22 5 _ 0 n n Try.underlying22 Try.underlying5 (by rw [shape?_at _ _ _ _ rfl]; rfl)
end Go.Proofs.Ytdnjjemdnlegdaa
