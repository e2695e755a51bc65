/-
  The document's answer for chacha: Left, Quarter, word.
-/
import Derived.Test.YtnoilogepkelaaaSlW
import Derived.Test.YtnoilogepkelaaaChaQ
namespace Go.Proofs.Ytnoilogepkelaaa
set_option linter.unusedVariables false
set_option linter.unusedSimpArgs false
open Go Go.RowKit
attribute [local go_sem] u32_add u32_sub u32_xor u32_or u32_and' u32_shl u32_shr u8_to_u32

theorem rleft_any (x : BitVec 32) (k : Int) (h0 : 0 < k) (h1 : k < 32) (w : World) :
    Calls Try.prog 18 #[.int .u32 (wv x), .int .i64 k] w fun e w' => e = .returned (.int .u32 (wv (x.rotateLeft k.toNat))) ∧ w = w' := by
  obtain ⟨k, rfl⟩ : ∃ n : Nat, k = n := ⟨k.toNat, by omega⟩
  have HE := Lib.hid (rot_eq x k (by omega))
  go_enter Try.func18, Try.ntmps18
  go_wp2
  go_ret
  refine ⟨ret_int ?_, rfl⟩
  rw [Int.toNat_natCast, HE.out]

theorem rquarter_any (q : Cha.Q) (w : World) :
    Calls Try.prog 11 #[.int .u32 (wv q.a), .int .u32 (wv q.b), .int .u32 (wv q.c), .int .u32 (wv q.d)] w fun e w' =>
      e = .returned (.tuple #[.int .u32 (wv (Cha.quarter q).a), .int .u32 (wv (Cha.quarter q).b), .int .u32 (wv (Cha.quarter q).c), .int .u32 (wv (Cha.quarter q).d)]) ∧ w = w' := by
  obtain ⟨a, b, c, d⟩ := q
  go_enter Try.func11, Try.ntmps11
  go_wp2_with (go_at_call 18; refine (rleft_any _ _ (by omega) (by omega) _).mono ?_; rintro e w' ⟨rfl, rfl⟩)
  refine bodyPost_ret (v := .tuple #[.int .u32 (wv (Cha.quarter ⟨a, b, c, d⟩).a), .int .u32 (wv (Cha.quarter ⟨a, b, c, d⟩).b), .int .u32 (wv (Cha.quarter ⟨a, b, c, d⟩).c), .int .u32 (wv (Cha.quarter ⟨a, b, c, d⟩).d)]) (by simp [results, Try.results11, go_sem, Cha.quarter, Cha.half]) rfl ⟨rfl, rfl⟩

theorem le4_eq (a b c d : BitVec 8) : Cha.le4 a b c d = 256 * (256 * (256 * (256 * 0 + d.setWidth 32) + c.setWidth 32) + b.setWidth 32) + a.setWidth 32 := by
  have ha := a.isLt
  have hb := b.isLt
  have hc := c.isLt
  have hd := d.isLt
  apply BitVec.eq_of_toNat_eq
  have n256 : BitVec.toNat (256 : BitVec 32) = 256 := rfl
  have n0 : BitVec.toNat (0 : BitVec 32) = 0 := rfl
  simp only [Cha.le4, n256, n0, BitVec.toNat_or, BitVec.toNat_shiftLeft, BitVec.toNat_setWidth, BitVec.toNat_add, BitVec.toNat_mul, BitVec.toNat_ofNat]
  have sh : ∀ x y i : Nat, x < 2 ^ i → x ||| (y <<< i) = y * 2 ^ i + x := fun x y i h => by
    rw [Nat.or_comm, ← Nat.shiftLeft_add_eq_or_of_lt h, Nat.shiftLeft_eq]
  have sm : ∀ y i : Nat, y < 256 → i ≤ 24 → (y % 2 ^ 32) <<< i % 2 ^ 32 = y <<< i := fun y i h hi => by
    rw [Nat.mod_eq_of_lt (a := y) (by omega)]
    refine Nat.mod_eq_of_lt ?_
    rw [Nat.shiftLeft_eq]
    have : 2 ^ i ≤ 2 ^ 24 := Nat.pow_le_pow_right (by omega) hi
    have : y * 2 ^ i ≤ 255 * 2 ^ 24 := Nat.mul_le_mul (by omega) this
    omega
  rw [sm _ _ hb (by omega), sm _ _ hc (by omega), sm _ _ hd (by omega), Nat.mod_eq_of_lt (a := a.toNat) (by omega), sh _ _ _ ha, sh _ _ 16 (by omega), sh _ _ 24 (by omega)]
  omega

theorem u32_mul256 (x : BitVec 32) : IntKind.u32.wrap (256 * wv x) = wv (256 * x) := u32_mul 256 x
theorem wv_zero : (0 : Int) = wv 0 := rfl

theorem rword_any (v : Value) (xs : List (BitVec 8)) (w : World) (h : SlB w v xs) (k : Nat) (hl : k + 4 ≤ xs.length) :
    Calls Try.prog 27 #[v, .int .i64 k] w fun e w' => e = .returned (.int .u32 (wv (Cha.le4 (xs.getD k 0) (xs.getD (k + 1) 0) (xs.getD (k + 2) 0) (xs.getD (k + 3) 0)))) ∧ Below w.heap.size w w' := by
  rcases h with ⟨_, rfl⟩ | ⟨b, off, cap, rfl, h1, h2, h3, h4⟩
  · simp at hl
  · have hm : maxLen = 9223372036854775807 := by decide
    have c0 := h4 k (by omega)
    have c1 := h4 (k + 1) (by omega)
    have c2 := h4 (k + 2) (by omega)
    have c3 := h4 (k + 3) (by omega)
    unfold byteV at c0 c1 c2 c3
    clear h4
    have HL := Lib.hid (le4_eq (xs.getD k 0) (xs.getD (k + 1) 0) (xs.getD (k + 2) 0) (xs.getD (k + 3) 0))
    generalize xs.getD k 0 = x0 at c0 HL ⊢
    generalize xs.getD (k + 1) 0 = x1 at c1 HL ⊢
    generalize xs.getD (k + 2) 0 = x2 at c2 HL ⊢
    generalize xs.getD (k + 3) 0 = x3 at c3 HL ⊢
    go_enter Try.func27, Try.ntmps27
    go_wp2
    refine wp_loop_rounds 5 ?_
    iterate 5
      rw [rounds_succ]
      go_wp2
    go_ret
    refine ⟨ret_int ?_, Below.refl _ _⟩
    rw [HL.out]
    simp only [← u32_add, ← u32_mul256, wrap_u32_mod]
    have hz : wv 0 = 0 := rfl
    omega
end Go.Proofs.Ytnoilogepkelaaa
