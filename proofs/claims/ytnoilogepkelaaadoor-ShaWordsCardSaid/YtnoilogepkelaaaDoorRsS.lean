/-
  The document's sha in plain Lean: primes, roots, constants.
-/
import Derived.Test.YtnoilogepkelaaaDoorShaS
namespace Go.Proofs.YtnoilogepkelaaaDoor.Rsh
set_option linter.unusedVariables false
set_option linter.unusedSimpArgs false
/-- within, as the text reckons it. -/
def within2 (x p : Nat) : Bool := decide (x * x / 18446744073709551616 < p) || (decide (x * x / 18446744073709551616 = p) && decide (x * x % 18446744073709551616 = 0))
def more3 (x : Nat) : Nat := x * x % 18446744073709551616 * x / 18446744073709551616 + x * x / 18446744073709551616 * x
def within3 (x p : Nat) : Bool := decide (more3 x < 4294967296 * p) || (decide (more3 x = 4294967296 * p) && decide (x * x % 18446744073709551616 * x % 18446744073709551616 = 0))
def withinB (x p many : Nat) : Bool := if many = 2 then within2 x p else within3 x p
def bitN (n : Nat) : Nat := 137438953472 / 2 ^ n
def lim (many : Nat) : Nat := if many = 2 then 137438953472 else 68719476736
def step (p many x bit : Nat) : Nat := if x + bit < lim many ∧ withinB (x + bit) p many = true then x + bit else x
def rootN (p many : Nat) : Nat → Nat
  | 0 => 0
  | n + 1 => step p many (rootN p many n) (bitN n)
def root (p many : Nat) : BitVec 32 := BitVec.ofNat 32 (rootN p many 38)
theorem rootN_lt (p many n : Nat) : rootN p many n < lim many := by
  induction n with
  | zero => unfold rootN lim; split <;> omega
  | succ n ih =>
    unfold rootN step
    split
    · rename_i h; exact h.1
    · exact ih
theorem bitN_succ (n : Nat) : bitN n / 2 = bitN (n + 1) := by
  unfold bitN
  rw [Nat.div_div_eq_div_mul, Nat.pow_succ]
theorem bitN_le (n : Nat) : bitN n ≤ 137438953472 := Nat.div_le_self _ _
theorem bitN_pos (n : Nat) (h : n < 38) : 0 < bitN n := by
  unfold bitN
  refine Nat.div_pos ?_ (Nat.pow_pos (by omega))
  exact Nat.le_trans (Nat.pow_le_pow_right (by omega) (show n ≤ 37 by omega)) (by decide)
theorem bitN_end : bitN 38 = 0 := by decide

/-- Is c prime, if l has the primes below it? As the text tries it: from number i on. -/
def tries (l : List Nat) (c : Nat) : Nat → Nat → Bool
  | _, 0 => true
  | i, f + 1 => if i < l.length ∧ l.getD i 0 * l.getD i 0 ≤ c then (if c % l.getD i 0 = 0 then false else tries l c (i + 1) f) else true
def isP (l : List Nat) (c : Nat) : Bool := tries l c 0 (l.length + 1)
/-- The list behind n numbers tried. -/
def pst : Nat → List Nat
  | 0 => []
  | n + 1 => if isP (pst n) (n + 2) = true then pst n ++ [n + 2] else pst n
def primes : List Nat := [2, 3, 5, 7, 11, 13, 17, 19, 23, 29, 31, 37, 41, 43, 47, 53, 59, 61, 67, 71, 73, 79, 83, 89, 97, 101, 103, 107, 109, 113, 127, 131, 137, 139, 149, 151, 157, 163, 167, 173, 179, 181, 191, 193, 197, 199, 211, 223, 227, 229, 233, 239, 241, 251, 257, 263, 269, 271, 277, 281, 283, 293, 307, 311]
/-- How many primes there are up to n + 1. -/
def cnt (n : Nat) : Nat := (primes.filter fun p => decide (p < n + 2)).length
set_option maxRecDepth 100000 in
theorem pst_eq : ∀ n, n ≤ 310 → pst n = primes.take (cnt n) := by
  have h : (List.range 311).all (fun n => decide ((if isP (primes.take (cnt n)) (n + 2) = true then primes.take (cnt n) ++ [n + 2] else primes.take (cnt n)) = primes.take (cnt (n + 1)))) = true := by decide +kernel
  intro n hn
  induction n with
  | zero => rfl
  | succ n ih =>
    have h1 := of_decide_eq_true (List.all_eq_true.1 h n (List.mem_range.2 (by omega)))
    unfold pst
    rw [ih (by omega)]
    exact h1
theorem cnt_310 : cnt 310 = 64 := by decide +kernel
theorem cnt_18 : cnt 18 = 8 := by decide +kernel
set_option maxRecDepth 100000 in
theorem starts_root : ∀ i, i < 8 → root (primes.getD i 0) 2 = Sha.starts.getD i 0 := by decide +kernel
set_option maxRecDepth 100000 in
theorem adds_root : ∀ i, i < 64 → root (primes.getD i 0) 3 = Sha.adds.getD i 0 := by decide +kernel
theorem primes_le : ∀ i, i < 64 → primes.getD i 0 ≤ 311 := by decide +kernel
end Go.Proofs.YtnoilogepkelaaaDoor.Rsh
