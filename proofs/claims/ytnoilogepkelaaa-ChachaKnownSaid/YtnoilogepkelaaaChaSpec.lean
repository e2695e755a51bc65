/-
  ChaCha20 on bit vectors: the quarter round and its inverse. No program in sight.
-/
namespace Go.Proofs.Ytnoilogepkelaaa.Cha
set_option linter.unusedVariables false
set_option linter.unusedSimpArgs false

structure Q where
  a : BitVec 32
  b : BitVec 32
  c : BitVec 32
  d : BitVec 32

/-- Half of a quarter round: turned by m, then by n. -/
def half (q : Q) (m n : Nat) : Q :=
  let a := q.a + q.b
  let d := (q.d ^^^ a).rotateLeft m
  let c := q.c + d
  let b := (q.b ^^^ c).rotateLeft n
  ⟨a, b, c, d⟩
def quarter (q : Q) : Q := half (half q 16 12) 8 7

/-- Four bytes as a word, the least first. -/
def le4 (a b c d : BitVec 8) : BitVec 32 := a.setWidth 32 ||| b.setWidth 32 <<< 8 ||| c.setWidth 32 <<< 16 ||| d.setWidth 32 <<< 24

/-- A quarter round of four of a state's words. -/
def qstep (xs : List (BitVec 32)) (p q r s : Nat) : List (BitVec 32) :=
  let t := quarter ⟨xs.getD p 0, xs.getD q 0, xs.getD r 0, xs.getD s 0⟩
  (((xs.set p t.a).set q t.b).set r t.c).set s t.d
def dstep (xs : List (BitVec 32)) (i : Nat) : List (BitVec 32) :=
  qstep xs (i % 4) (4 + (i % 4 + i / 4) % 4) (8 + (i % 4 + 2 * (i / 4)) % 4) (12 + (i % 4 + 3 * (i / 4)) % 4)
/-- After n quarter rounds of a double round. -/
def dsteps (xs : List (BitVec 32)) : Nat → List (BitVec 32)
  | 0 => xs
  | n + 1 => dstep (dsteps xs n) n
def double (xs : List (BitVec 32)) : List (BitVec 32) := dsteps xs 8
theorem qstep_length (xs : List (BitVec 32)) (p q r s : Nat) : (qstep xs p q r s).length = xs.length := by simp [qstep]
theorem dsteps_length (xs : List (BitVec 32)) (n : Nat) : (dsteps xs n).length = xs.length := by
  induction n with
  | zero => rfl
  | succ n ih => rw [dsteps, dstep, qstep_length, ih]

/-- "expand 32-byte k". -/
def head : List (BitVec 8) := [101, 120, 112, 97, 110, 100, 32, 51, 50, 45, 98, 121, 116, 101, 32, 107]
/-- A word of the bytes from 4 i on. -/
def wordAt (all : List (BitVec 8)) (i : Nat) : BitVec 32 := le4 (all.getD (4 * i) 0) (all.getD (4 * i + 1) 0) (all.getD (4 * i + 2) 0) (all.getD (4 * i + 3) 0)
/-- A state at first. -/
def begin (key : List (BitVec 8)) (c : BitVec 32) (nonce : List (BitVec 8)) : List (BitVec 32) :=
  ((List.range 16).map (wordAt (head ++ key ++ [0, 0, 0, 0] ++ nonce))).set 12 c

theorem wordAt_append_left (xs ys : List (BitVec 8)) (i : Nat) (h : 4 * i + 4 ≤ xs.length) : wordAt (xs ++ ys) i = wordAt xs i := by
  have e : ∀ j, j < xs.length → (xs ++ ys).getD j 0 = xs.getD j 0 := fun j hj => by simp [List.getD, List.getElem?_append, hj]
  simp only [wordAt, e (4 * i) (by omega), e (4 * i + 1) (by omega), e (4 * i + 2) (by omega), e (4 * i + 3) (by omega)]
theorem wordAt_append_right (xs ys : List (BitVec 8)) (n i : Nat) (h : xs.length = 4 * n) : wordAt (xs ++ ys) (n + i) = wordAt ys i := by
  have e : ∀ j, (xs ++ ys).getD (4 * (n + i) + j) 0 = ys.getD (4 * i + j) 0 := fun j => by
    simp only [List.getD]
    rw [List.getElem?_append_right (by omega), show 4 * (n + i) + j - xs.length = 4 * i + j by omega]
  have e0 := e 0
  simp only [Nat.add_zero] at e0
  simp only [wordAt, e0, e 1, e 2, e 3]
/-- A state, piece by piece. -/
theorem begin_eq (key : List (BitVec 8)) (c : BitVec 32) (nonce : List (BitVec 8)) (hk : key.length = 32) (hn : nonce.length = 12) :
    begin key c nonce = [0x61707865, 0x3320646e, 0x79622d32, 0x6b206574] ++ (List.range 8).map (wordAt key) ++ [c] ++ (List.range 3).map (wordAt nonce) := by
  have hh : head.length = 16 := rfl
  have a0 : ∀ i, i < 4 → wordAt (head ++ key ++ [0, 0, 0, 0] ++ nonce) i = wordAt head i := fun i hi => by
    rw [List.append_assoc, List.append_assoc, wordAt_append_left _ _ _ (by omega)]
  have a1 : ∀ i, i < 8 → wordAt (head ++ key ++ [0, 0, 0, 0] ++ nonce) (4 + i) = wordAt key i := fun i hi => by
    rw [List.append_assoc, List.append_assoc, wordAt_append_right _ _ 4 i (by omega), wordAt_append_left _ _ _ (by omega)]
  have a2 : ∀ i, i < 3 → wordAt (head ++ key ++ [0, 0, 0, 0] ++ nonce) (13 + i) = wordAt nonce i := fun i hi => by
    rw [wordAt_append_right _ _ 13 i (by simp [hh, hk])]
  simp only [begin, show List.range 16 = [0, 1, 2, 3, 4 + 0, 4 + 1, 4 + 2, 4 + 3, 4 + 4, 4 + 5, 4 + 6, 4 + 7, 12, 13 + 0, 13 + 1, 13 + 2] from rfl, List.map_cons, List.map_nil,
    a0 0 (by omega), a0 1 (by omega), a0 2 (by omega), a0 3 (by omega), a1 0 (by omega), a1 1 (by omega), a1 2 (by omega), a1 3 (by omega), a1 4 (by omega), a1 5 (by omega), a1 6 (by omega), a1 7 (by omega),
    a2 0 (by omega), a2 1 (by omega), a2 2 (by omega), show List.range 8 = [0, 1, 2, 3, 4, 5, 6, 7] from rfl, show List.range 3 = [0, 1, 2] from rfl]
  rfl

def rounds (xs : List (BitVec 32)) : Nat → List (BitVec 32)
  | 0 => xs
  | n + 1 => double (rounds xs n)
theorem double_length (xs : List (BitVec 32)) : (double xs).length = xs.length := dsteps_length xs 8
theorem rounds_length (xs : List (BitVec 32)) (n : Nat) : (rounds xs n).length = xs.length := by
  induction n with
  | zero => rfl
  | succ n ih => rw [rounds, double_length, ih]
theorem begin_length (key : List (BitVec 8)) (c : BitVec 32) (nonce : List (BitVec 8)) : (begin key c nonce).length = 16 := by simp [begin]
/-- Byte j of a word. -/
def byteOf (x : BitVec 32) (j : Nat) : BitVec 8 := (x >>> (8 * j)).setWidth 8
def outByte (s first : List (BitVec 32)) (j : Nat) : BitVec 8 := byteOf (s.getD (j / 4) 0 + first.getD (j / 4) 0) (j % 4)
theorem outByte_at (s first : List (BitVec 32)) (k j : Nat) (h : j < 4) : outByte s first (4 * k + j) = byteOf (s.getD k 0 + first.getD k 0) j := by
  unfold outByte
  rw [show (4 * k + j) / 4 = k by omega, show (4 * k + j) % 4 = j by omega]
def block (key : List (BitVec 8)) (c : BitVec 32) (nonce : List (BitVec 8)) : List (BitVec 8) :=
  (List.range 64).map (outByte (rounds (begin key c nonce) 10) (begin key c nonce))
theorem block_length (key : List (BitVec 8)) (c : BitVec 32) (nonce : List (BitVec 8)) : (block key c nonce).length = 64 := by simp [block]

/-- A quarter round, gone back: b and d are turned the rest of the way round. -/
def back (q : Q) : Q :=
  let b1 := q.b.rotateLeft 25 ^^^ q.c
  let c1 := q.c - q.d
  let d1 := q.d.rotateLeft 24 ^^^ q.a
  let a1 := q.a - b1
  let b2 := b1.rotateLeft 20 ^^^ c1
  let c2 := c1 - d1
  let d2 := d1.rotateLeft 16 ^^^ a1
  let a2 := a1 - b2
  ⟨a2, b2, c2, d2⟩

theorem turn_round (x : BitVec 32) (n : Nat) (h0 : 0 < n) (h1 : n < 32) : (x.rotateLeft n).rotateLeft (32 - n) = x := by
  ext i hi
  simp only [BitVec.getElem_rotateLeft]
  have e1 : n % 32 = n := Nat.mod_eq_of_lt h1
  have e2 : (32 - n) % 32 = 32 - n := Nat.mod_eq_of_lt (by omega)
  split <;> split <;> first | (congr 1; omega) | omega

theorem xor_back (x y : BitVec 32) : x ^^^ y ^^^ y = x := by
  rw [BitVec.xor_assoc, BitVec.xor_self, BitVec.xor_zero]
theorem add_back (x y : BitVec 32) : x + y - y = x := BitVec.add_sub_cancel x y

theorem back_quarter (q : Q) : back (quarter q) = q := by
  obtain ⟨a, b, c, d⟩ := q
  simp only [quarter, half, back, Q.mk.injEq]
  have r7 : ∀ x : BitVec 32, (x.rotateLeft 7).rotateLeft 25 = x := fun x => turn_round x 7 (by omega) (by omega)
  have r8 : ∀ x : BitVec 32, (x.rotateLeft 8).rotateLeft 24 = x := fun x => turn_round x 8 (by omega) (by omega)
  have r12 : ∀ x : BitVec 32, (x.rotateLeft 12).rotateLeft 20 = x := fun x => turn_round x 12 (by omega) (by omega)
  have r16 : ∀ x : BitVec 32, (x.rotateLeft 16).rotateLeft 16 = x := fun x => turn_round x 16 (by omega) (by omega)
  simp only [r7, r8, r12, r16, xor_back, add_back, and_self]
end Go.Proofs.Ytnoilogepkelaaa.Cha
