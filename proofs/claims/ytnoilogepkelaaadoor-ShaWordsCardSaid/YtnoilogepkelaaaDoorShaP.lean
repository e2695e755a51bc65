/-
  SHA-256: a block's first words, byte by byte; a state's parts. No program in sight.
-/
import Derived.Test.YtnoilogepkelaaaDoorShaN
namespace Go.Proofs.YtnoilogepkelaaaDoor.Sha
set_option linter.unusedVariables false
set_option linter.unusedSimpArgs false

/-- A word of which k bytes have come. -/
def pw (b : List (BitVec 8)) (p : Nat) : Nat → BitVec 32
  | 0 => 0
  | k + 1 => pw b p k <<< 8 ||| (b.getD (4 * p + k) 0).setWidth 32
theorem pw_four (b : List (BitVec 8)) (p : Nat) : pw b p 4 = wordAt b p := by
  simp only [pw, wordAt, be4, Nat.add_zero]
  simp only [BitVec.shiftLeft_or_distrib, ← BitVec.shiftLeft_add]
  simp
/-- The ring of which i bytes have come. -/
def pring (b : List (BitVec 8)) (i : Nat) : List (BitVec 32) := (List.range 16).map fun p => pw b p (min 4 (i - 4 * p))
theorem pring_length (b : List (BitVec 8)) (i : Nat) : (pring b i).length = 16 := by simp [pring]
theorem pring_zero (b : List (BitVec 8)) : pring b 0 = List.replicate 16 0 := by
  have : ∀ p, pw b p (min 4 (0 - 4 * p)) = 0 := fun p => by rw [show min 4 (0 - 4 * p) = 0 by omega]; rfl
  simp only [pring, this, List.map_const', List.length_range]
theorem pring_all (b : List (BitVec 8)) : pring b 64 = ring b 0 := by
  simp only [pring, ring]
  apply List.map_congr_left
  intro p hp
  have := List.mem_range.1 hp
  rw [show min 4 (64 - 4 * p) = 4 by omega, pw_four]
theorem pring_getD (b : List (BitVec 8)) (i p : Nat) (h : p < 16) : (pring b i).getD p 0 = pw b p (min 4 (i - 4 * p)) := by simp [pring, List.getD, h]
theorem pring_succ (b : List (BitVec 8)) (i : Nat) (h : i < 64) : pring b (i + 1) = (pring b i).set (i / 4) ((pring b i).getD (i / 4) 0 <<< 8 ||| (b.getD i 0).setWidth 32) := by
  apply List.ext_getElem?
  intro p
  by_cases hp : p < 16
  · rw [List.getElem?_set]
    have hl : (pring b i).length = 16 := pring_length b i
    by_cases e : i / 4 = p
    · rw [if_pos e, if_pos (by omega)]
      subst e
      rw [pring_getD b i _ hp]
      simp only [pring, List.getElem?_map, List.getElem?_range hp, Option.map_some]
      rw [show min 4 (i + 1 - 4 * (i / 4)) = min 4 (i - 4 * (i / 4)) + 1 by omega, pw, show 4 * (i / 4) + min 4 (i - 4 * (i / 4)) = i by omega]
    · rw [if_neg e]
      simp only [pring, List.getElem?_map, List.getElem?_range hp, Option.map_some]
      rw [show min 4 (i + 1 - 4 * p) = min 4 (i - 4 * p) by omega]
  · rw [List.getElem?_eq_none (by rw [pring_length]; omega), List.getElem?_eq_none (by rw [List.length_set, pring_length]; omega)]
theorem rnds_succ (s : S) (ws : List (BitVec 32)) (n : Nat) : rnds s ws (n + 1) = rnd (rnds s ws n) (adds.getD n 0) (ws.getD n 0) := rfl
/-- Words of which the first i are added to. -/
def plusN (x y : List (BitVec 32)) (i : Nat) : List (BitVec 32) := (List.range x.length).map fun j => if j < i then x.getD j 0 + y.getD j 0 else x.getD j 0
theorem plusN_length (x y : List (BitVec 32)) (i : Nat) : (plusN x y i).length = x.length := by simp [plusN]
theorem plusN_getD (x y : List (BitVec 32)) (i j : Nat) (h : j < x.length) : (plusN x y i).getD j 0 = if j < i then x.getD j 0 + y.getD j 0 else x.getD j 0 := by simp [plusN, List.getD, h]
theorem ext32 {xs ys : List (BitVec 32)} (hl : xs.length = ys.length) (h : ∀ j, j < xs.length → xs.getD j 0 = ys.getD j 0) : xs = ys := by
  apply List.ext_getElem?
  intro j
  by_cases hj : j < xs.length
  · have := h j hj
    rw [List.getElem?_eq_getElem hj, List.getElem?_eq_getElem (by omega)]
    simpa [List.getD, hj, show j < ys.length by omega] using this
  · rw [List.getElem?_eq_none (by omega), List.getElem?_eq_none (by omega)]
theorem plusN_zero (x y : List (BitVec 32)) : plusN x y 0 = x := ext32 (plusN_length _ _ _) fun j hj => by
  rw [plusN_length] at hj
  rw [plusN_getD _ _ _ _ hj, if_neg (by omega)]
theorem plusN_succ (x y : List (BitVec 32)) (i : Nat) (h : i < x.length) : plusN x y (i + 1) = (plusN x y i).set i (x.getD i 0 + y.getD i 0) := by
  refine ext32 (by rw [List.length_set, plusN_length, plusN_length]) fun j hj => ?_
  rw [plusN_length] at hj
  rw [plusN_getD _ _ _ _ hj]
  have hs : ((plusN x y i).set i (x.getD i 0 + y.getD i 0)).getD j 0 = if i = j then x.getD i 0 + y.getD i 0 else (plusN x y i).getD j 0 := by
    simp only [List.getD, List.getElem?_set]
    by_cases e : i = j
    · rw [if_pos e, if_pos e, if_pos (by rw [plusN_length]; omega)]; rfl
    · rw [if_neg e, if_neg e]
  rw [hs]
  by_cases e : i = j
  · subst e; rw [if_pos (by omega), if_pos rfl]
  · rw [if_neg e, plusN_getD _ _ _ _ hj]
    by_cases h1 : j < i
    · rw [if_pos h1, if_pos (by omega)]
    · rw [if_neg h1, if_neg (by omega)]
theorem plusN_all (x y : List (BitVec 32)) (h : x.length = y.length) : plusN x y x.length = plus x y := by
  refine ext32 (by rw [plusN_length]; simp [plus, h]) fun j hj => ?_
  rw [plusN_length] at hj
  rw [plusN_getD _ _ _ _ hj, if_pos hj]
  simp [plus, List.getD, List.getElem?_zipWith, hj, show j < y.length by omega]
theorem adds_length : adds.length = 64 := rfl
end Go.Proofs.YtnoilogepkelaaaDoor.Sha
