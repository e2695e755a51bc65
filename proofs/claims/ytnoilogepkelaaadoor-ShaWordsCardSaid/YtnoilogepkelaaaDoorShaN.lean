/-
  SHA-256's words in a ring of sixteen. No program in sight.
-/
import Derived.Test.YtnoilogepkelaaaDoorShaS
namespace Go.Proofs.YtnoilogepkelaaaDoor.Sha
set_option linter.unusedVariables false
set_option linter.unusedSimpArgs false

def ringNew (r : List (BitVec 32)) (i : Nat) : BitVec 32 := r.getD (i % 16) 0 + (small (r.getD ((i + 1) % 16) 0) 7 18 3 + r.getD ((i + 9) % 16) 0 + small (r.getD ((i + 14) % 16) 0) 17 19 10)
/-- The ring behind step i. -/
def ringNext (r : List (BitVec 32)) (i : Nat) : List (BitVec 32) := if 16 ≤ i then r.set (i % 16) (ringNew r i) else r
theorem ringNext_length (r : List (BitVec 32)) (i : Nat) : (ringNext r i).length = r.length := by unfold ringNext; split <;> simp
/-- The ring ahead of step i. -/
def ring (b : List (BitVec 8)) : Nat → List (BitVec 32)
  | 0 => (List.range 16).map (wordAt b)
  | i + 1 => ringNext (ring b i) i
theorem ring_length (b : List (BitVec 8)) (i : Nat) : (ring b i).length = 16 := by
  induction i with
  | zero => simp [ring]
  | succ i ih => rw [ring, ringNext_length, ih]
/-- Which word stands at a place of the ring. -/
def at_ (i p : Nat) : Nat := if i ≤ 16 then p else i - 16 + (p + 16 - i % 16) % 16
theorem sched_word (b : List (BitVec 8)) (p : Nat) (h : p < 16) : (sched b 64).getD p 0 = wordAt b p := by
  rw [sched_last b p 64 (by omega), next, if_pos h]
theorem sched_next (b : List (BitVec 8)) (n : Nat) (h : 16 ≤ n) (hn : n < 64) :
    (sched b 64).getD n 0 = (sched b 64).getD (n - 16) 0 + small ((sched b 64).getD (n - 15) 0) 7 18 3 + (sched b 64).getD (n - 7) 0 + small ((sched b 64).getD (n - 2) 0) 17 19 10 := by
  rw [sched_last b n 64 hn, next, if_neg (by omega), sched_getD b n 64 (n - 16) (by omega) (by omega), sched_getD b n 64 (n - 15) (by omega) (by omega), sched_getD b n 64 (n - 7) (by omega) (by omega), sched_getD b n 64 (n - 2) (by omega) (by omega)]
theorem ring_at (b : List (BitVec 8)) (i : Nat) (hi : i ≤ 64) : ∀ p, p < 16 → (ring b i).getD p 0 = (sched b 64).getD (at_ i p) 0 := by
  induction i with
  | zero =>
    intro p hp
    rw [ring, at_, if_pos (by omega), sched_word b p hp]
    simp [List.getD, hp]
  | succ i ih =>
    intro p hp
    have ih := ih (by omega)
    rw [ring]
    unfold ringNext
    by_cases h : 16 ≤ i
    · rw [if_pos h]
      have hl := ring_length b i
      by_cases hp2 : i % 16 = p
      · subst hp2
        have e : ((ring b i).set (i % 16) (ringNew (ring b i) i)).getD (i % 16) 0 = ringNew (ring b i) i := by
          simp [List.getD, List.getElem?_set, hl, hp]
        rw [e, show at_ (i + 1) (i % 16) = i by unfold at_; rw [if_neg (by omega)]; omega, sched_next b i h (by omega)]
        unfold ringNew
        rw [ih _ (by omega), ih _ (by omega), ih _ (by omega), ih _ (by omega)]
        rw [show at_ i (i % 16) = i - 16 by unfold at_; split <;> omega, show at_ i ((i + 1) % 16) = i - 15 by unfold at_; split <;> omega, show at_ i ((i + 9) % 16) = i - 7 by unfold at_; split <;> omega, show at_ i ((i + 14) % 16) = i - 2 by unfold at_; split <;> omega]
        simp only [BitVec.add_assoc]
      · have e : ((ring b i).set (i % 16) (ringNew (ring b i) i)).getD p 0 = (ring b i).getD p 0 := by
          simp [List.getD, List.getElem?_set, hp2]
        rw [e, ih p hp, show at_ (i + 1) p = at_ i p by unfold at_; rw [if_neg (by omega)]; split <;> omega]
    · rw [if_neg h, ih p hp, show at_ (i + 1) p = at_ i p by unfold at_; rw [if_pos (by omega), if_pos (by omega)]]
/-- What step i answers. -/
theorem ring_word (b : List (BitVec 8)) (i : Nat) (hi : i < 64) : (ring b (i + 1)).getD (i % 16) 0 = (sched b 64).getD i 0 := by
  rw [ring_at b (i + 1) (by omega) _ (by omega), show at_ (i + 1) (i % 16) = i by unfold at_; split <;> omega]
end Go.Proofs.YtnoilogepkelaaaDoor.Sha
