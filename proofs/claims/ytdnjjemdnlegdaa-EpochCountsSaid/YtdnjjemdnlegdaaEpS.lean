/-
  A counter in plain Lean: what bytes tell. No program in sight.
-/
import Derived.Test.YtdnjjemdnlegdaaDkL
namespace Go.Proofs.Ytdnjjemdnlegdaa.Ep
set_option linter.unusedVariables false
set_option linter.unusedSimpArgs false
open Go Go.Proofs.Ytdnjjemdnlegdaa

/-- Bytes tell n: so many bytes 1 at the front, all others being 0. -/
def Tells (b : List (BitVec 8)) (n : Nat) : Prop := n ≤ b.length ∧ (∀ j, j < n → b.getD j 0 = 1) ∧ ∀ j, n ≤ j → j < b.length → b.getD j 0 = 0
theorem Tells.uniq {b : List (BitVec 8)} {n m : Nat} (h : Tells b n) (h' : Tells b m) : n = m := by
  rcases Nat.lt_trichotomy n m with hl | he | hl
  · have h1 := h.2.2 n (Nat.le_refl _) (Nat.lt_of_lt_of_le hl h'.1)
    rw [h'.2.1 n hl] at h1
    exact absurd h1 (by decide)
  · exact he
  · have h1 := h'.2.2 m (Nat.le_refl _) (Nat.lt_of_lt_of_le hl h.1)
    rw [h.2.1 m hl] at h1
    exact absurd h1 (by decide)
/-- What a sector is when a counter counts on from v. -/
def sector (v : Nat) : List (BitVec 8) := List.replicate (v % 128 + 1) 1 ++ List.replicate (127 - v % 128) 0
theorem sector_length (v : Nat) : (sector v).length = 128 := by simp [sector]; omega
theorem sector_getD (v j : Nat) (hj : j < 128) : (sector v).getD j 0 = if j ≤ v % 128 then 1 else 0 := by
  unfold sector
  simp only [List.getD]
  by_cases h : j ≤ v % 128
  · rw [if_pos h, List.getElem?_append_left (by simp; omega), List.getElem?_replicate, if_pos (by omega)]
    rfl
  · rw [if_neg h, List.getElem?_append_right (by simp; omega), List.getElem?_replicate]
    simp
    split <;> rfl
end Go.Proofs.Ytdnjjemdnlegdaa.Ep
