/-
  What layer 8's statements do, in plain Lean: an act's bytes. No program in sight.
-/
import Derived.Test.YtdnjjemdnlegdaaDkL
namespace Go.Proofs.Ytdnjjemdnlegdaa.Dk
set_option linter.unusedVariables false
set_option linter.unusedSimpArgs false
open Go

def padN (b : List (BitVec 8)) : Nat → List (BitVec 8)
  | 0 => b
  | n + 1 => padN b n ++ [BitVec.ofNat 8 (padN b n).length]
def padBy (n : Nat) : Nat := (128 - n % 128) % 128
def data (whole : Bool) (xs : List (BitVec 8)) : List (BitVec 8) := if whole = true then padN (xs.take 1024) (padBy (xs.take 1024).length) else xs.take 1024
theorem padN_length (b : List (BitVec 8)) (n : Nat) : (padN b n).length = b.length + n := by
  induction n with
  | zero => rfl
  | succ n ih => simp [padN, ih]; omega
theorem data_length (whole : Bool) (xs : List (BitVec 8)) : (data whole xs).length ≤ 1024 := by
  unfold data
  split
  · rw [padN_length, List.length_take]; unfold padBy; omega
  · rw [List.length_take]; omega
theorem data_whole (xs : List (BitVec 8)) : (data true xs).length % 128 = 0 := by
  unfold data
  rw [if_pos rfl, padN_length]; unfold padBy; omega
theorem put_fresh (A : List (BitVec 8)) (h : A.length ≤ 1024) : ∃ d1, putAt (fresh 20) 0 A = (d1, 0) ∧ d1.b.length = 2560 ∧ d1.off = false := by
  have hl : (fresh 20).b.length = 2560 := by unfold fresh; rw [List.length_replicate]
  refine ⟨{ fresh 20 with b := splice (fresh 20).b 0 A }, ?_, ?_, rfl⟩
  · unfold putAt
    rw [if_neg (by rw [hl]; omega)]
    rfl
  · show (splice (fresh 20).b 0 A).length = 2560
    rw [splice_length _ _ _ (by rw [hl]; omega), hl]
theorem cut_on (d : D) (h : d.off = false) (whole : Nat) (mask : List (BitVec 8)) : cut d (whole : Int) mask = ({ d with left := (whole : Int), mask := mask }, 0) := by
  unfold cut
  rw [if_neg (by omega), h]
  rfl
/-- Is a byte of a torn write written? -/
def tornHit (mask : List (BitVec 8)) (a nb wh j : Nat) : Bool := decide (a ≤ j / 128) && decide (j / 128 < a + nb) && (decide (j / 128 < a + wh) || (decide (j / 128 = a + wh) && bit mask (j % 128)))
theorem torn_facts (d : D) (hl : d.b.length = 2560) (hoff : d.off = false) (mask B : List (BitVec 8)) (nb a wh : Nat) (hB : B.length = nb * 128) (ha : a + nb ≤ 20) :
    (write { d with left := (wh : Int), mask := mask } (a : Int) B).2 = (if wh < nb then 12 else 0) ∧ (write { d with left := (wh : Int), mask := mask } (a : Int) B).1.off = decide (wh < nb) ∧
    ∀ j, (write { d with left := (wh : Int), mask := mask } (a : Int) B).1.b.getD j 0 = if tornHit mask a nb wh j = true then B.getD (j - 128 * a) 0 else d.b.getD j 0 := by
  have hm : may { d with left := (wh : Int), mask := mask } (a : Int) ((B.length / 128 : Nat) : Int) = 0 := (may_zero _ _ _).2 ⟨⟨by omega, by omega, by show _ ≤ ((d.b.length / 128 : Nat) : Int); omega⟩, hoff⟩
  have hw : write { d with left := (wh : Int), mask := mask } (a : Int) B = run a B nb 0 { d with left := (wh : Int), mask := mask } := by
    unfold write
    rw [if_neg (by omega), if_neg (by omega), Int.toNat_natCast, show B.length / 128 = nb by omega]
  rw [hw]
  obtain ⟨g1, g2, g3, g4, g5⟩ := run_getD a B nb hB nb 0 { d with left := (wh : Int), mask := mask } (by omega) (by show _ ≤ d.b.length; omega) (by show -1 ≤ (wh : Int); omega)
  refine ⟨?_, ?_, fun j => ?_⟩
  · rw [g2]
    by_cases h : wh < nb
    · rw [if_pos h, if_pos ⟨by show 0 ≤ (wh : Int); omega, by show (wh : Int) < _; omega⟩]
    · rw [if_neg h, if_neg (fun hh => h (by have : (wh : Int) < nb := hh.2; omega))]
  · rw [g3]
    by_cases h : wh < nb
    · rw [if_pos ⟨by show 0 ≤ (wh : Int); omega, by show (wh : Int) < _; omega⟩]; simp [h]
    · rw [if_neg (fun hh => h (by have : (wh : Int) < nb := hh.2; omega))]; simp [h, hoff]
  · rw [g1]
    have e : (a + 0 ≤ j / 128 ∧ j / 128 < a + nb ∧ hit (wh : Int) mask (a + 0) j = true) ↔ tornHit mask a nb wh j = true := by
      simp only [hit, tornHit, Bool.and_eq_true, Bool.or_eq_true, decide_eq_true_eq, Nat.add_zero]
      constructor
      · rintro ⟨h1, h2, (h3 | h3) | h3⟩
        · omega
        · exact ⟨⟨h1, h2⟩, .inl (by omega)⟩
        · exact ⟨⟨h1, h2⟩, .inr ⟨by omega, h3.2⟩⟩
      · rintro ⟨⟨h1, h2⟩, h3 | h3⟩
        · exact ⟨h1, h2, .inl (.inr (by omega))⟩
        · exact ⟨h1, h2, .inr ⟨by omega, h3.2⟩⟩
    by_cases h : tornHit mask a nb wh j = true
    · rw [if_pos h, if_pos (e.2 h)]
    · rw [if_neg h, if_neg (fun hh => h (e.1 hh))]
end Go.Proofs.Ytdnjjemdnlegdaa.Dk
