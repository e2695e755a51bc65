/-
  Numbers as bytes, the greatest first, in plain Lean. No program in sight.
-/
import Derived.Laws.CopyOwn
namespace Go.Proofs.Ytdnjjemdnlegdaa.Num
set_option linter.unusedVariables false
set_option linter.unusedSimpArgs false

theorem getD_take (b : List (BitVec 8)) (k j : Nat) (h : j < k) : (b.take k).getD j 0 = b.getD j 0 := by simp [List.getD, h]
/-- A number as so many bytes, the greatest first. -/
def num (n : Nat) : Nat → List (BitVec 8)
  | 0 => []
  | k + 1 => BitVec.ofNat 8 (n / 2 ^ (8 * k)) :: num n k
theorem num_length (n k : Nat) : (num n k).length = k := by
  induction k with
  | zero => rfl
  | succ k ih => simp [num, ih]
theorem num_getD (n k i : Nat) (h : i < k) : (num n k).getD i 0 = BitVec.ofNat 8 (n / 2 ^ (8 * (k - 1 - i))) := by
  induction k generalizing i with
  | zero => omega
  | succ k ih =>
    cases i with
    | zero => rfl
    | succ i =>
      have := ih i (by omega)
      rw [num, List.getD_cons_succ, this, show k + 1 - 1 - (i + 1) = k - 1 - i by omega]
theorem num_take (n k i : Nat) (h : i < k) : (num n k).take (i + 1) = (num n k).take i ++ [BitVec.ofNat 8 (n / 2 ^ (8 * (k - 1 - i)))] := by
  rw [← num_getD n k i h, List.take_succ_eq_append_getElem (by rw [num_length]; exact h)]
  simp [List.getD, num_length, h]
theorem num_drop (n k i : Nat) (h : i < k) : (num n k).drop i = BitVec.ofNat 8 (n / 2 ^ (8 * (k - 1 - i))) :: (num n k).drop (i + 1) := by
  rw [← num_getD n k i h, List.drop_eq_getElem_cons (by rw [num_length]; exact h)]
  simp [List.getD, num_length, h]
theorem num4 (n : Nat) : num n 4 = [BitVec.ofNat 8 (n / 16777216), BitVec.ofNat 8 (n / 65536), BitVec.ofNat 8 (n / 256), BitVec.ofNat 8 n] := by
  simp [num]
/-- The number that four bytes are. -/
def val4 (xs : List (BitVec 8)) : Nat := 16777216 * (xs.getD 0 0).toNat + 65536 * (xs.getD 1 0).toNat + 256 * (xs.getD 2 0).toNat + (xs.getD 3 0).toNat
theorem val4_lt (xs : List (BitVec 8)) : val4 xs < 4294967296 := by
  unfold val4
  have := (xs.getD 0 0).isLt
  have := (xs.getD 1 0).isLt
  have := (xs.getD 2 0).isLt
  have := (xs.getD 3 0).isLt
  omega
theorem val4_num (n : Nat) (h : n < 4294967296) (ys : List (BitVec 8)) : val4 (num n 4 ++ ys) = n := by
  rw [num4]
  simp only [val4, List.cons_append, List.nil_append, List.getD_cons_zero, List.getD_cons_succ, BitVec.toNat_ofNat]
  omega
theorem list4 (xs : List (BitVec 8)) (h : 4 ≤ xs.length) : xs.take 4 = [xs.getD 0 0, xs.getD 1 0, xs.getD 2 0, xs.getD 3 0] := by
  match xs, h with
  | a :: b :: c :: d :: l, _ => rfl
theorem num_val4 (xs : List (BitVec 8)) (h : 4 ≤ xs.length) : num (val4 xs) 4 = xs.take 4 := by
  rw [list4 xs h, num4]
  unfold val4
  generalize xs.getD 0 0 = a
  generalize xs.getD 1 0 = b
  generalize xs.getD 2 0 = c
  generalize xs.getD 3 0 = d
  have := a.isLt
  have := b.isLt
  have := c.isLt
  have := d.isLt
  congr 1
  · apply BitVec.eq_of_toNat_eq; rw [BitVec.toNat_ofNat]; omega
  congr 1
  · apply BitVec.eq_of_toNat_eq; rw [BitVec.toNat_ofNat]; omega
  congr 1
  · apply BitVec.eq_of_toNat_eq; rw [BitVec.toNat_ofNat]; omega
  congr 1
  · apply BitVec.eq_of_toNat_eq; rw [BitVec.toNat_ofNat]; omega
theorem val4_take (xs : List (BitVec 8)) (n : Nat) (h : 4 ≤ n) : val4 (xs.take n) = val4 xs := by
  unfold val4
  rw [getD_take _ _ _ (by omega), getD_take _ _ _ (by omega), getD_take _ _ _ (by omega), getD_take _ _ _ (by omega)]

end Go.Proofs.Ytdnjjemdnlegdaa.Num
