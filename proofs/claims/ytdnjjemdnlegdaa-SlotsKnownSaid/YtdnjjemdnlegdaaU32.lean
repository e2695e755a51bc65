/-
  Words of 32 bits and bytes as bit vectors: what Go's arithmetic on them comes to in a walk.
-/
import Derived.WalkKit
namespace Go.Proofs.Ytdnjjemdnlegdaa
set_option linter.unusedVariables false
set_option linter.unusedSimpArgs false
open Go

theorem wrap_u32_mod (n : Int) : IntKind.u32.wrap n = n % 4294967296 := by simp [IntKind.wrap, IntKind.bits, IntKind.signed]
theorem wrap_u8_mod (n : Int) : IntKind.u8.wrap n = n % 256 := by simp [IntKind.wrap, IntKind.bits, IntKind.signed]
theorem wrap_u64_mod (n : Int) : IntKind.u64.wrap n = n % 18446744073709551616 := by simp [IntKind.wrap, IntKind.bits, IntKind.signed]

/-- A word's, a byte's number, as Go's values hold it. -/
def wv (x : BitVec 32) : Int := (x.toNat : Int)
def bv (x : BitVec 8) : Int := (x.toNat : Int)
theorem wv_def (x : BitVec 32) : wv x = (x.toNat : Int) := rfl
theorem bv_def (x : BitVec 8) : bv x = (x.toNat : Int) := rfl
theorem wv_nonneg (x : BitVec 32) : 0 ≤ wv x := by unfold wv; omega
theorem wv_lt (x : BitVec 32) : wv x < 4294967296 := by unfold wv; have := x.isLt; omega
theorem bv_nonneg (x : BitVec 8) : 0 ≤ bv x := by unfold bv; omega
theorem bv_lt (x : BitVec 8) : bv x < 256 := by unfold bv; have := x.isLt; omega
theorem wv_inj {x y : BitVec 32} (h : wv x = wv y) : x = y := by unfold wv at h; apply BitVec.eq_of_toNat_eq; omega
theorem bv_inj {x y : BitVec 8} (h : bv x = bv y) : x = y := by unfold bv at h; apply BitVec.eq_of_toNat_eq; omega
theorem wv_of {n : Int} (h0 : 0 ≤ n) (h : n < 4294967296) : ∃ x : BitVec 32, n = wv x :=
  ⟨BitVec.ofNat 32 n.toNat, by unfold wv; rw [BitVec.toNat_ofNat]; omega⟩
theorem bv_of {n : Int} (h0 : 0 ≤ n) (h : n < 256) : ∃ x : BitVec 8, n = bv x :=
  ⟨BitVec.ofNat 8 n.toNat, by unfold bv; rw [BitVec.toNat_ofNat]; omega⟩

theorem u32_add (a b : BitVec 32) : IntKind.u32.wrap (wv a + wv b) = wv (a + b) := by
  unfold wv; rw [wrap_u32_mod, BitVec.toNat_add]; omega
theorem u32_sub (a b : BitVec 32) : IntKind.u32.wrap (wv a - wv b) = wv (a - b) := by
  unfold wv; rw [wrap_u32_mod, BitVec.toNat_sub]; have := a.isLt; have := b.isLt; omega
theorem u32_mul (a b : BitVec 32) : IntKind.u32.wrap (wv a * wv b) = wv (a * b) := by
  unfold wv; rw [wrap_u32_mod, BitVec.toNat_mul]; have : ((a.toNat * b.toNat : Nat) : Int) = (a.toNat : Int) * b.toNat := by simp
  omega
theorem u32_xor (a b : BitVec 32) : bits .xor .u32 (wv a) (wv b) = wv (a ^^^ b) := by
  unfold wv; rw [u32_xor_nat _ _ a.isLt b.isLt, BitVec.toNat_xor]
theorem u32_or (a b : BitVec 32) : bits .or .u32 (wv a) (wv b) = wv (a ||| b) := by
  unfold wv; rw [u32_or_nat _ _ a.isLt b.isLt, BitVec.toNat_or]
theorem u32_and' (a b : BitVec 32) : bits .and .u32 (wv a) (wv b) = wv (a &&& b) := by
  unfold wv; rw [u32_and_nat _ _ a.isLt b.isLt, BitVec.toNat_and]
theorem u8_xor' (a b : BitVec 8) : bits .xor .u8 (bv a) (bv b) = bv (a ^^^ b) := by
  unfold bv; rw [u8_xor_nat _ _ a.isLt b.isLt, BitVec.toNat_xor]
theorem u8_or' (a b : BitVec 8) : bits .or .u8 (bv a) (bv b) = bv (a ||| b) := by
  unfold bv; rw [u8_or_nat _ _ a.isLt b.isLt, BitVec.toNat_or]
theorem u8_and' (a b : BitVec 8) : bits .and .u8 (bv a) (bv b) = bv (a &&& b) := by
  unfold bv; rw [u8_and_nat _ _ a.isLt b.isLt, BitVec.toNat_and]

theorem u32_shl (a : BitVec 32) (n : Nat) : IntKind.u32.wrap (wv a * 2 ^ n) = wv (a <<< n) := by
  unfold wv; rw [wrap_u32_mod, BitVec.toNat_shiftLeft, Nat.shiftLeft_eq]
  have : ((a.toNat * 2 ^ n : Nat) : Int) = (a.toNat : Int) * 2 ^ n := by simp
  omega
theorem u32_shr (a : BitVec 32) (n : Nat) : wv a / 2 ^ n = wv (a >>> n) := by
  unfold wv; rw [BitVec.toNat_ushiftRight, Nat.shiftRight_eq_div_pow]
  simp

theorem u32_shr8 (a : BitVec 32) : wv a / 256 = wv (a >>> 8) := u32_shr a 8
theorem u32_shr16 (a : BitVec 32) : wv a / 65536 = wv (a >>> 16) := u32_shr a 16
theorem u32_shr24 (a : BitVec 32) : wv a / 16777216 = wv (a >>> 24) := u32_shr a 24
theorem u32_shl8 (a : BitVec 32) : IntKind.u32.wrap (wv a * 256) = wv (a <<< 8) := u32_shl a 8
theorem u32_shl16 (a : BitVec 32) : IntKind.u32.wrap (wv a * 65536) = wv (a <<< 16) := u32_shl a 16
theorem u32_shl24 (a : BitVec 32) : IntKind.u32.wrap (wv a * 16777216) = wv (a <<< 24) := u32_shl a 24

/-- a byte as a word, a word's last byte -/
theorem u8_to_u32 (a : BitVec 8) : IntKind.u32.wrap (bv a) = wv (a.setWidth 32) := by
  unfold wv bv; rw [wrap_u32_mod, BitVec.toNat_setWidth]; have := a.isLt; omega
theorem u32_to_u8 (a : BitVec 32) : IntKind.u8.wrap (wv a) = bv (a.setWidth 8) := by
  unfold wv bv; rw [wrap_u8_mod, BitVec.toNat_setWidth]; omega

/-- Turning by the count that bits.RotateLeft32 reckons. -/
theorem rot_count (k : Int) : bits .and .u64 (IntKind.u64.wrap k) 31 = ((k % 32).toNat : Int) := by
  have h0 : 0 ≤ IntKind.u64.wrap k := wrap_u64_nonneg k
  have h1 : IntKind.u64.wrap k < 18446744073709551616 := by rw [wrap_u64_mod]; omega
  rw [u64_and _ _ h0 h1 (by omega) (by omega)]
  have e : (31 : Int).toNat = 31 := rfl
  rw [e, show (31 : Nat) = 2 ^ 5 - 1 from rfl, Nat.and_two_pow_sub_one_eq_mod, wrap_u64_mod]
  omega
theorem rot_eq (x : BitVec 32) (n : Nat) (h : n < 32) : x.rotateLeft n = (x <<< n) ||| (x >>> (32 - n)) := by
  rw [BitVec.rotateLeft_def, Nat.mod_eq_of_lt h]

theorem ret_int {k : IntKind} {a b : Int} (h : a = b) : Ending.returned (.int k a) = .returned (.int k b) := by rw [h]
end Go.Proofs.Ytdnjjemdnlegdaa
