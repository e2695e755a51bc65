/-
  ChaCha20 on bit vectors: the quarter round and its inverse. No program in sight.
-/
namespace Go.Proofs.Ytnoilogepkelaaa.Cha

structure Q where
  a : BitVec 32
  b : BitVec 32
  c : BitVec 32
  d : BitVec 32

/-- Half of a quarter round: turned by m, then by n. -/
def half (q : Q) (m n : Nat) : Q :=
  let a := q.a + q.b
  let d := (q.d ^^^ a).rotateLeft m
  let c := q.c + d
  let b := (q.b ^^^ c).rotateLeft n
  ⟨a, b, c, d⟩
def quarter (q : Q) : Q := half (half q 16 12) 8 7

/-- A quarter round, gone back: b and d are turned the rest of the way round. -/
def back (q : Q) : Q :=
  let b1 := q.b.rotateLeft 25 ^^^ q.c
  let c1 := q.c - q.d
  let d1 := q.d.rotateLeft 24 ^^^ q.a
  let a1 := q.a - b1
  let b2 := b1.rotateLeft 20 ^^^ c1
  let c2 := c1 - d1
  let d2 := d1.rotateLeft 16 ^^^ a1
  let a2 := a1 - b2
  ⟨a2, b2, c2, d2⟩

theorem turn_round (x : BitVec 32) (n : Nat) (h0 : 0 < n) (h1 : n < 32) : (x.rotateLeft n).rotateLeft (32 - n) = x := by
  ext i hi
  simp only [BitVec.getElem_rotateLeft]
  have e1 : n % 32 = n := Nat.mod_eq_of_lt h1
  have e2 : (32 - n) % 32 = 32 - n := Nat.mod_eq_of_lt (by omega)
  split <;> split <;> first | (congr 1; omega) | omega

theorem xor_back (x y : BitVec 32) : x ^^^ y ^^^ y = x := by
  rw [BitVec.xor_assoc, BitVec.xor_self, BitVec.xor_zero]
theorem add_back (x y : BitVec 32) : x + y - y = x := BitVec.add_sub_cancel x y

theorem back_quarter (q : Q) : back (quarter q) = q := by
  obtain ⟨a, b, c, d⟩ := q
  simp only [quarter, half, back, Q.mk.injEq]
  have r7 : ∀ x : BitVec 32, (x.rotateLeft 7).rotateLeft 25 = x := fun x => turn_round x 7 (by omega) (by omega)
  have r8 : ∀ x : BitVec 32, (x.rotateLeft 8).rotateLeft 24 = x := fun x => turn_round x 8 (by omega) (by omega)
  have r12 : ∀ x : BitVec 32, (x.rotateLeft 12).rotateLeft 20 = x := fun x => turn_round x 12 (by omega) (by omega)
  have r16 : ∀ x : BitVec 32, (x.rotateLeft 16).rotateLeft 16 = x := fun x => turn_round x 16 (by omega) (by omega)
  simp only [r7, r8, r12, r16, xor_back, add_back, and_self]
end Go.Proofs.Ytnoilogepkelaaa.Cha
