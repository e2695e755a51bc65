/-
  The document's sha: Mul64, within, Root.
-/
import Derived.Test.YtnoilogepkelaaaDoorRsS
import Derived.Test.YtnoilogepkelaaaDoorSlU
import Derived.Test.YtnoilogepkelaaaDoorAny
import Derived.Test.YtnoilogepkelaaaDoorLibC
import Derived.Deep.DeepCutAuto
import Derived.Lib.Mul64
import Derived.Laws.Bits64b
namespace Go.Proofs.YtnoilogepkelaaaDoor
set_option linter.unusedVariables false
set_option linter.unusedSimpArgs false
open Go Go.RowKit
namespace M64
theorem maskN (a : Nat) (ha : a < 18446744073709551616) : bits .and .u64 (a : Int) 4294967295 = ((a % 4294967296 : Nat) : Int) := by
  have h := bits_and_u64_nat a 4294967295 ha (by omega)
  have e : a &&& 4294967295 = a % 4294967296 := Nat.and_two_pow_sub_one_eq_mod a 32
  rw [e] at h
  exact h
theorem divN (a : Nat) : (a : Int) / 4294967296 = ((a / 4294967296 : Nat) : Int) := by omega
theorem mulN (a b : Nat) : (a : Int) * (b : Int) = ((a * b : Nat) : Int) := (Int.natCast_mul a b).symm
theorem addN (a b : Nat) : (a : Int) + (b : Int) = ((a + b : Nat) : Int) := (Int.natCast_add a b).symm
theorem wrapN (a : Nat) (ha : a < 18446744073709551616) : IntKind.u64.wrap (a : Int) = (a : Int) := by rw [IntKind.wrap_u64]; omega
theorem wrapM (a : Nat) : IntKind.u64.wrap (a : Int) = ((a % 18446744073709551616 : Nat) : Int) := by rw [IntKind.wrap_u64]; omega
end M64
set_option maxHeartbeats 1000000 in
theorem mul64_any (x y : Nat) (hx : x < 18446744073709551616) (hy : y < 18446744073709551616) (w : World) :
    Calls Tryd.prog 98 #[.int .u64 x, .int .u64 y] w fun e w' => e = .returned (.tuple #[.int .u64 ((x * y / 18446744073709551616 : Nat) : Int), .int .u64 ((x * y % 18446744073709551616 : Nat) : Int)]) ∧ w' = w := by
  obtain ⟨bd, bt, bw, hhi⟩ := Lib.mul64_hi x y hx hy
  have ba := Lib.half_mul_le (a := x / 4294967296) (b := y / 4294967296) (by omega) (by omega)
  have bb := Lib.half_mul_le (a := x / 4294967296) (b := y % 4294967296) (by omega) (by omega)
  have bc := Lib.half_mul_le (a := x % 4294967296) (b := y / 4294967296) (by omega) (by omega)
  have ba' : x / 4294967296 * (y / 4294967296) < 18446744073709551616 := by omega
  have bb' : x / 4294967296 * (y % 4294967296) < 18446744073709551616 := by omega
  have bc' : x % 4294967296 * (y / 4294967296) < 18446744073709551616 := by omega
  have bh1 : x / 4294967296 * (y / 4294967296) + (x / 4294967296 * (y % 4294967296) + x % 4294967296 * (y % 4294967296) / 4294967296) / 4294967296 < 18446744073709551616 := by omega
  have bh : x / 4294967296 * (y / 4294967296) + (x / 4294967296 * (y % 4294967296) + x % 4294967296 * (y % 4294967296) / 4294967296) / 4294967296 + ((x / 4294967296 * (y % 4294967296) + x % 4294967296 * (y % 4294967296) / 4294967296) % 4294967296 + x % 4294967296 * (y / 4294967296)) / 4294967296 < 18446744073709551616 := by omega
  go_enter Tryd.func98, Tryd.ntmps98
  go_wp2
  simp only [M64.maskN x hx, M64.maskN y hy, M64.divN, M64.mulN, M64.addN, M64.wrapN _ bd, M64.wrapN _ bb', M64.wrapN _ bt, M64.maskN _ bt, M64.wrapN _ bc', M64.wrapN _ bw, M64.wrapN _ ba', M64.wrapN _ bh1, M64.wrapN _ bh, M64.wrapM (x * y)]
  rw [hhi]
  go_ret2
  exact ⟨rfl, rfl⟩

set_option maxHeartbeats 1000000 in
theorem within2_any (x p : Nat) (hx : x < 2199023255552) (hp : p ≤ 400) (w : World) :
    Calls Tryd.prog 91 #[.int .u64 x, .int .u64 p, .int .i64 2] w fun e w' => e = .returned (.bool (Rsh.within2 x p)) ∧ w' = w := by
  have HM := Lib.hid (mul64_any x x (by omega) (by omega) w)
  have HW := Lib.hid (show Rsh.within2 x p = (decide (x * x / 18446744073709551616 < p) || (decide (x * x / 18446744073709551616 = p) && decide (x * x % 18446744073709551616 = 0))) from rfl)
  obtain ⟨hi, hhi⟩ : ∃ h, x * x / 18446744073709551616 = h := ⟨_, rfl⟩
  obtain ⟨lo, hlo⟩ : ∃ h, x * x % 18446744073709551616 = h := ⟨_, rfl⟩
  rw [hhi, hlo] at HM HW
  clear hhi hlo hx
  generalize Rsh.within2 x p = r at *
  by_cases h1 : hi < p
  · obtain rfl : r = true := by rw [HW.out]; simp [h1]
    have h1' : (hi : Int) < (p : Int) := by omega
    go_enter Tryd.func91, Tryd.ntmps91
    go_wp2_with (go_at_call 98; refine HM.out.mono ?_; rintro e w' ⟨rfl, rfl⟩)
    all_goals
      go_ret
      exact ⟨rfl, rfl⟩
  · by_cases h2 : hi = p
    · by_cases h3 : lo = 0
      · obtain rfl : r = true := by rw [HW.out]; simp [h2, h3]
        subst h2 h3
        go_enter Tryd.func91, Tryd.ntmps91
        go_wp2_with (go_at_call 98; refine HM.out.mono ?_; rintro e w' ⟨rfl, rfl⟩)
        all_goals
          go_ret
          exact ⟨rfl, rfl⟩
      · obtain rfl : r = false := by rw [HW.out]; simp [h1, h3]
        subst h2
        have h3' : ((lo : Int) == 0) = false := by simp; omega
        have h3'' : ¬ (lo : Int) = 0 := by omega
        go_enter Tryd.func91, Tryd.ntmps91
        go_wp2_with (go_at_call 98; refine HM.out.mono ?_; rintro e w' ⟨rfl, rfl⟩)
        all_goals
          go_ret
          exact ⟨rfl, rfl⟩
    · obtain rfl : r = false := by rw [HW.out]; simp [h1, h2]
      have h1' : decide ((hi : Int) < (p : Int)) = false := by simp; omega
      have h2' : ((hi : Int) == (p : Int)) = false := by simp; omega
      have h2'' : ¬ (hi : Int) = (p : Int) := by omega
      go_enter Tryd.func91, Tryd.ntmps91
      go_wp2_with (go_at_call 98; refine HM.out.mono ?_; rintro e w' ⟨rfl, rfl⟩)
      all_goals
        go_ret
        exact ⟨rfl, rfl⟩
end Go.Proofs.YtnoilogepkelaaaDoor
