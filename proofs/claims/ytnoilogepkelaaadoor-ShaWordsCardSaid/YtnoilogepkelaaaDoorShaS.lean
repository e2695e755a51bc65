/-
  SHA-256 in plain Lean, on bit vectors. No program in sight.
-/
namespace Go.Proofs.YtnoilogepkelaaaDoor.Sha
set_option linter.unusedVariables false
set_option linter.unusedSimpArgs false

def starts : List (BitVec 32) := [0x6a09e667, 0xbb67ae85, 0x3c6ef372, 0xa54ff53a, 0x510e527f, 0x9b05688c, 0x1f83d9ab, 0x5be0cd19]
def adds : List (BitVec 32) := [
  0x428a2f98, 0x71374491, 0xb5c0fbcf, 0xe9b5dba5, 0x3956c25b, 0x59f111f1, 0x923f82a4, 0xab1c5ed5,
  0xd807aa98, 0x12835b01, 0x243185be, 0x550c7dc3, 0x72be5d74, 0x80deb1fe, 0x9bdc06a7, 0xc19bf174,
  0xe49b69c1, 0xefbe4786, 0x0fc19dc6, 0x240ca1cc, 0x2de92c6f, 0x4a7484aa, 0x5cb0a9dc, 0x76f988da,
  0x983e5152, 0xa831c66d, 0xb00327c8, 0xbf597fc7, 0xc6e00bf3, 0xd5a79147, 0x06ca6351, 0x14292967,
  0x27b70a85, 0x2e1b2138, 0x4d2c6dfc, 0x53380d13, 0x650a7354, 0x766a0abb, 0x81c2c92e, 0x92722c85,
  0xa2bfe8a1, 0xa81a664b, 0xc24b8b70, 0xc76c51a3, 0xd192e819, 0xd6990624, 0xf40e3585, 0x106aa070,
  0x19a4c116, 0x1e376c08, 0x2748774c, 0x34b0bcb5, 0x391c0cb3, 0x4ed8aa4a, 0x5b9cca4f, 0x682e6ff3,
  0x748f82ee, 0x78a5636f, 0x84c87814, 0x8cc70208, 0x90befffa, 0xa4506ceb, 0xbef9a3f7, 0xc67178f2]

/-- Turned right. -/
def rr (x : BitVec 32) (n : Nat) : BitVec 32 := x.rotateLeft (32 - n)
def small (x : BitVec 32) (a b c : Nat) : BitVec 32 := rr x a ^^^ rr x b ^^^ x >>> c
def large (x : BitVec 32) (a b c : Nat) : BitVec 32 := rr x a ^^^ rr x b ^^^ rr x c
/-- Four bytes as a word, the greatest first. -/
def be4 (a b c d : BitVec 8) : BitVec 32 := a.setWidth 32 <<< 24 ||| b.setWidth 32 <<< 16 ||| c.setWidth 32 <<< 8 ||| d.setWidth 32
def wordAt (b : List (BitVec 8)) (i : Nat) : BitVec 32 := be4 (b.getD (4 * i) 0) (b.getD (4 * i + 1) 0) (b.getD (4 * i + 2) 0) (b.getD (4 * i + 3) 0)
/-- Word number n, of those ahead of it. -/
def next (b : List (BitVec 8)) (ws : List (BitVec 32)) (n : Nat) : BitVec 32 :=
  if n < 16 then wordAt b n else ws.getD (n - 16) 0 + small (ws.getD (n - 15) 0) 7 18 3 + ws.getD (n - 7) 0 + small (ws.getD (n - 2) 0) 17 19 10
/-- The first n words of a block. -/
def sched (b : List (BitVec 8)) : Nat → List (BitVec 32)
  | 0 => []
  | n + 1 => sched b n ++ [next b (sched b n) n]
theorem sched_length (b : List (BitVec 8)) (n : Nat) : (sched b n).length = n := by
  induction n with
  | zero => rfl
  | succ n ih => simp [sched, ih]
theorem sched_getD (b : List (BitVec 8)) (n m j : Nat) (h : j < n) (hm : n ≤ m) : (sched b m).getD j 0 = (sched b n).getD j 0 := by
  induction m with
  | zero => rw [show n = 0 by omega]
  | succ m ih =>
    by_cases e : n = m + 1
    · rw [e]
    · rw [sched, List.getD, List.getElem?_append_left (by rw [sched_length]; omega)]
      exact ih (by omega)
theorem sched_last (b : List (BitVec 8)) (n m : Nat) (h : n < m) : (sched b m).getD n 0 = next b (sched b n) n := by
  rw [sched_getD b (n + 1) m n (by omega) (by omega), sched, List.getD, List.getElem?_append_right (by rw [sched_length]; omega), sched_length]
  simp

structure S where
  a : BitVec 32
  b : BitVec 32
  c : BitVec 32
  d : BitVec 32
  e : BitVec 32
  f : BitVec 32
  g : BitVec 32
  h : BitVec 32
def S.list (s : S) : List (BitVec 32) := [s.a, s.b, s.c, s.d, s.e, s.f, s.g, s.h]
def S.of (l : List (BitVec 32)) : S := ⟨l.getD 0 0, l.getD 1 0, l.getD 2 0, l.getD 3 0, l.getD 4 0, l.getD 5 0, l.getD 6 0, l.getD 7 0⟩
def rnd (s : S) (k w : BitVec 32) : S :=
  let u := s.h + large s.e 6 11 25 + (s.g ^^^ s.e &&& (s.f ^^^ s.g)) + k + w
  let v := large s.a 2 13 22 + (s.a &&& (s.b ||| s.c) ||| s.b &&& s.c)
  ⟨u + v, s.a, s.b, s.c, s.d + u, s.e, s.f, s.g⟩
/-- Behind n rounds. -/
def rnds (s : S) (ws : List (BitVec 32)) : Nat → S
  | 0 => s
  | n + 1 => rnd (rnds s ws n) (adds.getD n 0) (ws.getD n 0)
def plus (x y : List (BitVec 32)) : List (BitVec 32) := List.zipWith (· + ·) x y
def mix (w : List (BitVec 32)) (b : List (BitVec 8)) : List (BitVec 32) := plus w (rnds (S.of w) (sched b 64) 64).list
theorem mix_length (w : List (BitVec 32)) (b : List (BitVec 8)) (h : w.length = 8) : (mix w b).length = 8 := by simp [mix, plus, S.list, h]

/-- How choices and majorities may be written. -/
theorem choice (e f g : BitVec 32) : g ^^^ e &&& (f ^^^ g) = (e &&& f) ^^^ (~~~e &&& g) := by
  ext i hi
  simp only [BitVec.getElem_xor, BitVec.getElem_and, BitVec.getElem_not]
  cases e[i] <;> cases f[i] <;> cases g[i] <;> rfl
theorem most (a b c : BitVec 32) : (a &&& (b ||| c) ||| b &&& c) = (a &&& b) ^^^ (a &&& c) ^^^ (b &&& c) := by
  ext i hi
  simp only [BitVec.getElem_xor, BitVec.getElem_and, BitVec.getElem_or]
  cases a[i] <;> cases b[i] <;> cases c[i] <;> rfl

/-- What stands behind n bytes: 128, noughts, and how many bits there were. -/
def many (n : Nat) : Nat := 64 - (n + 8) % 64
def be8 (n : Nat) : List (BitVec 8) := (List.range 8).map fun i => BitVec.ofNat 8 (n / 2 ^ (56 - 8 * i))
def behind (n : Nat) : List (BitVec 8) := 128 :: List.replicate (many n - 1) 0 ++ be8 (8 * n)
theorem many_pos (n : Nat) : 1 ≤ many n ∧ many n ≤ 64 := by unfold many; omega
theorem be8_length (n : Nat) : (be8 n).length = 8 := by simp [be8]
theorem behind_length (n : Nat) : (behind n).length = many n + 8 := by
  have := many_pos n
  simp [behind, be8_length]; omega
theorem behind_whole (n : Nat) : (n + (behind n).length) % 64 = 0 := by rw [behind_length]; unfold many; omega

/-- Words, mixed with the first n blocks. -/
def block (b : List (BitVec 8)) (k : Nat) : List (BitVec 8) := (b.drop (64 * k)).take 64
def foldN (w : List (BitVec 32)) (b : List (BitVec 8)) : Nat → List (BitVec 32)
  | 0 => w
  | n + 1 => mix (foldN w b n) (block b n)
def fold (w : List (BitVec 32)) (b : List (BitVec 8)) : List (BitVec 32) := foldN w b (b.length / 64)
theorem foldN_length (w : List (BitVec 32)) (b : List (BitVec 8)) (n : Nat) (h : w.length = 8) : (foldN w b n).length = 8 := by
  induction n with
  | zero => exact h
  | succ n ih => exact mix_length _ _ ih
theorem block_length (b : List (BitVec 8)) (k : Nat) (h : 64 * k + 64 ≤ b.length) : (block b k).length = 64 := by simp [block]; omega
theorem block_append (b c : List (BitVec 8)) (k : Nat) (h : 64 * k + 64 ≤ b.length) : block (b ++ c) k = block b k := by
  unfold block
  rw [List.drop_append_of_le_length (by omega), List.take_append_of_le_length (by simp; omega)]
theorem block_behind (b c : List (BitVec 8)) (m k : Nat) (h : b.length = 64 * m) : block (b ++ c) (m + k) = block c k := by
  unfold block
  rw [Nat.mul_add, ← h, List.drop_append, List.drop_of_length_le (by omega), List.nil_append, Nat.add_sub_cancel_left]
theorem foldN_append (w : List (BitVec 32)) (b c : List (BitVec 8)) (n : Nat) (h : 64 * n ≤ b.length) : foldN w (b ++ c) n = foldN w b n := by
  induction n with
  | zero => rfl
  | succ n ih => rw [foldN, foldN, ih (by omega), block_append _ _ _ (by omega)]
theorem foldN_behind (w : List (BitVec 32)) (b c : List (BitVec 8)) (m n : Nat) (h : b.length = 64 * m) : foldN w (b ++ c) (m + n) = foldN (foldN w b m) c n := by
  induction n with
  | zero => exact foldN_append w b c m (by omega)
  | succ n ih => rw [← Nat.add_assoc, foldN, foldN, ih, block_behind _ _ _ _ h]
/-- What was folded already goes on. -/
theorem fold_append (w : List (BitVec 32)) (b c : List (BitVec 8)) (h : b.length % 64 = 0) : fold w (b ++ c) = fold (fold w b) c := by
  unfold fold
  rw [List.length_append, show (b.length + c.length) / 64 = b.length / 64 + c.length / 64 by omega, foldN_behind _ _ _ _ _ (by omega)]

def byteOf (x : BitVec 32) (j : Nat) : BitVec 8 := (x >>> (24 - 8 * j)).setWidth 8
def told (w : List (BitVec 32)) : List (BitVec 8) := (List.range 32).map fun j => byteOf (w.getD (j / 4) 0) (j % 4)
theorem told_length (w : List (BitVec 32)) : (told w).length = 32 := by simp [told]
def words (h : List (BitVec 8)) : List (BitVec 32) := (List.range 8).map (wordAt h)
theorem words_length (h : List (BitVec 8)) : (words h).length = 8 := by simp [words]
def sum (b : List (BitVec 8)) : List (BitVec 8) := told (fold starts (b ++ behind b.length))
theorem sum_length (b : List (BitVec 8)) : (sum b).length = 32 := told_length _
def resume (h : List (BitVec 8)) (n : Nat) (more : List (BitVec 8)) : List (BitVec 8) :=
  told (fold (words h) (more ++ behind (n + (behind n).length + more.length)))
theorem be4_bytes (x : BitVec 32) : be4 (byteOf x 0) (byteOf x 1) (byteOf x 2) (byteOf x 3) = x := by
  ext i hi
  simp only [be4, byteOf, BitVec.getElem_or, BitVec.getElem_shiftLeft, BitVec.getElem_setWidth, BitVec.getLsbD_setWidth, BitVec.getLsbD_ushiftRight]
  by_cases h1 : i < 8
  · simp [h1, show i < 16 by omega, show i < 24 by omega, hi]
  · by_cases h2 : i < 16
    · simp [h1, h2, show i < 24 by omega, show i - 8 < 8 by omega, show 8 + (i - 8) = i by omega, hi]
    · by_cases h3 : i < 24
      · simp [h1, h2, h3, show i - 16 < 8 by omega, show 16 + (i - 16) = i by omega, show ¬ i - 8 < 8 by omega, hi]
      · simp [h1, h2, h3, show i - 24 < 8 by omega, show 24 + (i - 24) = i by omega, show ¬ i - 8 < 8 by omega, show ¬ i - 16 < 8 by omega, hi]
theorem told_at (w : List (BitVec 32)) (i j : Nat) (hi : i < 8) (hj : j < 4) : (told w).getD (4 * i + j) 0 = byteOf (w.getD i 0) j := by
  simp only [told, List.getD, List.getElem?_map, List.getElem?_range (show 4 * i + j < 32 by omega), Option.map_some, Option.getD_some]
  rw [show (4 * i + j) / 4 = i by omega, show (4 * i + j) % 4 = j by omega]
theorem words_told (w : List (BitVec 32)) (h : w.length = 8) : words (told w) = w := by
  apply List.ext_getElem?
  intro i
  by_cases hi : i < 8
  · have e0 := told_at w i 0 hi (by omega)
    rw [Nat.add_zero] at e0
    simp only [words, List.getElem?_map, List.getElem?_range hi, Option.map_some, wordAt, e0, told_at w i 1 hi (by omega), told_at w i 2 hi (by omega), told_at w i 3 hi (by omega), be4_bytes]
    simp [List.getD, h, hi]
  · rw [List.getElem?_eq_none (by rw [words_length]; omega), List.getElem?_eq_none (by omega)]
theorem starts_length : starts.length = 8 := rfl
/-- Going on from a digest tells the digest of it all. -/
theorem resume_sum (b more : List (BitVec 8)) : resume (sum b) b.length more = sum (b ++ behind b.length ++ more) := by
  unfold resume sum
  rw [show words (told (fold starts (b ++ behind b.length))) = fold starts (b ++ behind b.length) from words_told _ (foldN_length _ _ _ starts_length), ← fold_append _ _ _ (by rw [List.length_append]; exact behind_whole _)]
  simp [Nat.add_assoc]
end Go.Proofs.YtnoilogepkelaaaDoor.Sha
