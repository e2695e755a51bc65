/-
  A byte's two digits, and the only byte that has them: plain Lean.
-/
import Derived.Test.YtnoilogepkelaaaDoorShaK
import Derived.Test.YtnoilogepkelaaaDoorRsK
namespace Go.Proofs.YtnoilogepkelaaaDoor.Sha
set_option linter.unusedVariables false
set_option linter.unusedSimpArgs false
theorem two_ofNat (n : Nat) (hn : n < 256) : two (BitVec.ofNat 8 n) = [dg (n / 16), dg (n % 16)] := by
  unfold two
  rw [BitVec.toNat_ofNat, Nat.mod_eq_of_lt (show n < 2 ^ 8 by omega)]
theorem two_fwd (a b : BitVec 8) (n : Nat) (hn : n < 256) (h : two (BitVec.ofNat 8 n) = [a, b]) : bv (nibB a ||| nibB b) < 16 ∧ nibB a <<< 4 ||| nibB b = BitVec.ofNat 8 n := by
  rw [two_ofNat n hn] at h
  simp only [List.cons.injEq, and_true] at h
  rw [← h.1, ← h.2]
  exact ⟨byte_ok n hn, byte_back n hn⟩
theorem two_bwd (a b : BitVec 8) (h16 : bv (nibB a ||| nibB b) < 16) : two (nibB a <<< 4 ||| nibB b) = [a, b] := by
  have h17 : (nibB a ||| nibB b).toNat < 16 := by unfold bv at h16; omega
  rw [BitVec.toNat_or] at h17
  have ha16 : (nibB a).toNat < 16 := Nat.lt_of_le_of_lt Nat.left_le_or h17
  have hb16 : (nibB b).toNat < 16 := Nat.lt_of_le_of_lt Nat.right_le_or h17
  have ea : BitVec.ofNat 8 a.toNat = a := by rw [BitVec.ofNat_toNat, BitVec.setWidth_eq]
  have eb : BitVec.ofNat 8 b.toNat = b := by rw [BitVec.ofNat_toNat, BitVec.setWidth_eq]
  have en : BitVec.ofNat 8 (nibB a).toNat = nibB a := by rw [BitVec.ofNat_toNat, BitVec.setWidth_eq]
  have em : BitVec.ofNat 8 (nibB b).toNat = nibB b := by rw [BitVec.ofNat_toNat, BitVec.setWidth_eq]
  have h2 := two_parts _ ha16 _ hb16
  rw [en, em] at h2
  have da := dg_nib a.toNat a.isLt
  have db := dg_nib b.toNat b.isLt
  rw [ea] at da
  rw [eb] at db
  unfold two
  rw [h2.1, h2.2, da ha16, db hb16]
/-- What the search through all bytes finds at place j of a word. -/
theorem ofOk_two (xs : List (BitVec 8)) (j n : Nat) (hn : n < 256) (h : two (BitVec.ofNat 8 n) = [xs.getD (2 * j) 0, xs.getD (2 * j + 1) 0]) : ofOk xs j = true ∧ ofVal xs j = BitVec.ofNat 8 n := by
  have := two_fwd _ _ n hn h
  exact ⟨decide_eq_true this.1, this.2⟩
theorem ofOk_no (xs : List (BitVec 8)) (j : Nat) (h : ∀ n, n < 256 → two (BitVec.ofNat 8 n) ≠ [xs.getD (2 * j) 0, xs.getD (2 * j + 1) 0]) : ofOk xs j = false := by
  by_cases e : ofOk xs j = true
  · have h2 := two_bwd _ _ (of_decide_eq_true e)
    have h3 := h _ (nibB (xs.getD (2 * j) 0) <<< 4 ||| nibB (xs.getD (2 * j + 1) 0)).isLt
    rw [BitVec.ofNat_toNat, BitVec.setWidth_eq] at h3
    exact absurd h2 h3
  · simpa using e
/-- The word of a digest that has one byte, then zeros: its first two digits. -/
theorem text_first (n : Nat) (hn : n < 256) : (text (BitVec.ofNat 8 n :: List.replicate 31 0)).take 2 = two (BitVec.ofNat 8 n) := by
  unfold text
  rw [List.flatMap_cons, List.take_append_of_le_length (by simp [two])]
  simp [two]
end Go.Proofs.YtnoilogepkelaaaDoor.Sha
