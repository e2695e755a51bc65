/-
  chacha.word: four bytes as a word.
-/
import Derived.Test.YtnoilogepkelaaaLibs
import Derived.Test.YtnoilogepkelaaaChaSpec
namespace Go.Proofs.Ytnoilogepkelaaa
set_option linter.unusedVariables false
set_option linter.unusedSimpArgs false
open Go Go.RowKit
attribute [local go_sem] u32_add u32_sub u32_xor u32_or u32_and' u32_shl u32_shr u32_shl8 u32_shl16 u32_shl24 u8_to_u32 u32_to_u8

theorem chaword_any (v : Value) (xs : List (BitVec 8)) (w : World) (h : SlB w v xs) (hl : 4 ≤ xs.length) :
    Calls Try.prog 26 #[v] w fun e w' => e = .returned (.int .u32 (wv (Cha.le4 (xs.getD 0 0) (xs.getD 1 0) (xs.getD 2 0) (xs.getD 3 0)))) ∧ Below w.heap.size w w' := by
  rcases h with ⟨_, rfl⟩ | ⟨b, off, cap, rfl, h1, h2, h3, h4⟩
  · simp at hl
  · have c0 := h4 0 (by omega)
    have c1 := h4 1 (by omega)
    have c2 := h4 2 (by omega)
    have c3 := h4 3 (by omega)
    unfold byteV at c0 c1 c2 c3
    simp only [Nat.add_zero] at c0
    clear h4
    generalize xs.getD 0 0 = x0 at c0 ⊢
    generalize xs.getD 1 0 = x1 at c1 ⊢
    generalize xs.getD 2 0 = x2 at c2 ⊢
    generalize xs.getD 3 0 = x3 at c3 ⊢
    have l0 : (0 : Int) < (xs.length : Int) := by omega
    have l1 : (1 : Int) < (xs.length : Int) := by omega
    have l2 : (2 : Int) < (xs.length : Int) := by omega
    have l3 : (3 : Int) < (xs.length : Int) := by omega
    go_enter Try.func26, Try.ntmps26
    go_wp2_with fail
    go_quiet (fail)
    go_wp2
    go_ret
    exact ⟨rfl, Below.drewN (Below.refl _ _) _⟩
end Go.Proofs.Ytnoilogepkelaaa
