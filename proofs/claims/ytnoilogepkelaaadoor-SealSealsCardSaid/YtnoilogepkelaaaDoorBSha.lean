/-
  The law ShaTurned: its walk.
-/
import Derived.Test.YtnoilogepkelaaaDoorBBase
import Derived.Deep.QuietTactic
import Derived.BigQuiet
import Derived.Deep.RegionHeld3
import Derived.Deep.DeepCutAuto
import Derived.Laws.Cover3
import Derived.Deep.MidRow
import Derived.Deep.AppendLies
import Derived.Lib.ConvBytes
import Derived.Test.YtnoilogepkelaaaDoorRows
import Derived.ChangeVars
import Derived.ChangeSame
import Derived.BigFrame
namespace Go.Proofs.YtnoilogepkelaaaDoor.Sha
set_option linter.unusedVariables false
set_option linter.unusedSimpArgs false

def starts : List (BitVec 32) := [0x6a09e667, 0xbb67ae85, 0x3c6ef372, 0xa54ff53a, 0x510e527f, 0x9b05688c, 0x1f83d9ab, 0x5be0cd19]
def adds : List (BitVec 32) := [
  0x428a2f98, 0x71374491, 0xb5c0fbcf, 0xe9b5dba5, 0x3956c25b, 0x59f111f1, 0x923f82a4, 0xab1c5ed5,
  0xd807aa98, 0x12835b01, 0x243185be, 0x550c7dc3, 0x72be5d74, 0x80deb1fe, 0x9bdc06a7, 0xc19bf174,
  0xe49b69c1, 0xefbe4786, 0x0fc19dc6, 0x240ca1cc, 0x2de92c6f, 0x4a7484aa, 0x5cb0a9dc, 0x76f988da,
  0x983e5152, 0xa831c66d, 0xb00327c8, 0xbf597fc7, 0xc6e00bf3, 0xd5a79147, 0x06ca6351, 0x14292967,
  0x27b70a85, 0x2e1b2138, 0x4d2c6dfc, 0x53380d13, 0x650a7354, 0x766a0abb, 0x81c2c92e, 0x92722c85,
  0xa2bfe8a1, 0xa81a664b, 0xc24b8b70, 0xc76c51a3, 0xd192e819, 0xd6990624, 0xf40e3585, 0x106aa070,
  0x19a4c116, 0x1e376c08, 0x2748774c, 0x34b0bcb5, 0x391c0cb3, 0x4ed8aa4a, 0x5b9cca4f, 0x682e6ff3,
  0x748f82ee, 0x78a5636f, 0x84c87814, 0x8cc70208, 0x90befffa, 0xa4506ceb, 0xbef9a3f7, 0xc67178f2]

/-- Turned right. -/
def rr (x : BitVec 32) (n : Nat) : BitVec 32 := x.rotateLeft (32 - n)
def small (x : BitVec 32) (a b c : Nat) : BitVec 32 := rr x a ^^^ rr x b ^^^ x >>> c
def large (x : BitVec 32) (a b c : Nat) : BitVec 32 := rr x a ^^^ rr x b ^^^ rr x c
/-- Four bytes as a word, the greatest first. -/
def be4 (a b c d : BitVec 8) : BitVec 32 := a.setWidth 32 <<< 24 ||| b.setWidth 32 <<< 16 ||| c.setWidth 32 <<< 8 ||| d.setWidth 32
def wordAt (b : List (BitVec 8)) (i : Nat) : BitVec 32 := be4 (b.getD (4 * i) 0) (b.getD (4 * i + 1) 0) (b.getD (4 * i + 2) 0) (b.getD (4 * i + 3) 0)
/-- Word number n, of those ahead of it. -/
def next (b : List (BitVec 8)) (ws : List (BitVec 32)) (n : Nat) : BitVec 32 :=
  if n < 16 then wordAt b n else ws.getD (n - 16) 0 + small (ws.getD (n - 15) 0) 7 18 3 + ws.getD (n - 7) 0 + small (ws.getD (n - 2) 0) 17 19 10
/-- The first n words of a block. -/
def sched (b : List (BitVec 8)) : Nat → List (BitVec 32)
  | 0 => []
  | n + 1 => sched b n ++ [next b (sched b n) n]
theorem sched_length (b : List (BitVec 8)) (n : Nat) : (sched b n).length = n := by
  induction n with
  | zero => rfl
  | succ n ih => simp [sched, ih]
theorem sched_getD (b : List (BitVec 8)) (n m j : Nat) (h : j < n) (hm : n ≤ m) : (sched b m).getD j 0 = (sched b n).getD j 0 := by
  induction m with
  | zero => rw [show n = 0 by omega]
  | succ m ih =>
    by_cases e : n = m + 1
    · rw [e]
    · rw [sched, List.getD, List.getElem?_append_left (by rw [sched_length]; omega)]
      exact ih (by omega)
theorem sched_last (b : List (BitVec 8)) (n m : Nat) (h : n < m) : (sched b m).getD n 0 = next b (sched b n) n := by
  rw [sched_getD b (n + 1) m n (by omega) (by omega), sched, List.getD, List.getElem?_append_right (by rw [sched_length]; omega), sched_length]
  simp

structure S where
  a : BitVec 32
  b : BitVec 32
  c : BitVec 32
  d : BitVec 32
  e : BitVec 32
  f : BitVec 32
  g : BitVec 32
  h : BitVec 32
def S.list (s : S) : List (BitVec 32) := [s.a, s.b, s.c, s.d, s.e, s.f, s.g, s.h]
def S.of (l : List (BitVec 32)) : S := ⟨l.getD 0 0, l.getD 1 0, l.getD 2 0, l.getD 3 0, l.getD 4 0, l.getD 5 0, l.getD 6 0, l.getD 7 0⟩
def rnd (s : S) (k w : BitVec 32) : S :=
  let u := s.h + large s.e 6 11 25 + (s.g ^^^ s.e &&& (s.f ^^^ s.g)) + k + w
  let v := large s.a 2 13 22 + (s.a &&& (s.b ||| s.c) ||| s.b &&& s.c)
  ⟨u + v, s.a, s.b, s.c, s.d + u, s.e, s.f, s.g⟩
/-- Behind n rounds. -/
def rnds (s : S) (ws : List (BitVec 32)) : Nat → S
  | 0 => s
  | n + 1 => rnd (rnds s ws n) (adds.getD n 0) (ws.getD n 0)
def plus (x y : List (BitVec 32)) : List (BitVec 32) := List.zipWith (· + ·) x y
def mix (w : List (BitVec 32)) (b : List (BitVec 8)) : List (BitVec 32) := plus w (rnds (S.of w) (sched b 64) 64).list
theorem mix_length (w : List (BitVec 32)) (b : List (BitVec 8)) (h : w.length = 8) : (mix w b).length = 8 := by simp [mix, plus, S.list, h]

/-- How choices and majorities may be written. -/
theorem choice (e f g : BitVec 32) : g ^^^ e &&& (f ^^^ g) = (e &&& f) ^^^ (~~~e &&& g) := by
  ext i hi
  simp only [BitVec.getElem_xor, BitVec.getElem_and, BitVec.getElem_not]
  cases e[i] <;> cases f[i] <;> cases g[i] <;> rfl
theorem most (a b c : BitVec 32) : (a &&& (b ||| c) ||| b &&& c) = (a &&& b) ^^^ (a &&& c) ^^^ (b &&& c) := by
  ext i hi
  simp only [BitVec.getElem_xor, BitVec.getElem_and, BitVec.getElem_or]
  cases a[i] <;> cases b[i] <;> cases c[i] <;> rfl

/-- What stands behind n bytes: 128, noughts, and how many bits there were. -/
def many (n : Nat) : Nat := 64 - (n + 8) % 64
def be8 (n : Nat) : List (BitVec 8) := (List.range 8).map fun i => BitVec.ofNat 8 (n / 2 ^ (56 - 8 * i))
def behind (n : Nat) : List (BitVec 8) := 128 :: List.replicate (many n - 1) 0 ++ be8 (8 * n)
theorem many_pos (n : Nat) : 1 ≤ many n ∧ many n ≤ 64 := by unfold many; omega
theorem be8_length (n : Nat) : (be8 n).length = 8 := by simp [be8]
theorem behind_length (n : Nat) : (behind n).length = many n + 8 := by
  have := many_pos n
  simp [behind, be8_length]; omega
theorem behind_whole (n : Nat) : (n + (behind n).length) % 64 = 0 := by rw [behind_length]; unfold many; omega

/-- Words, mixed with the first n blocks. -/
def block (b : List (BitVec 8)) (k : Nat) : List (BitVec 8) := (b.drop (64 * k)).take 64
def foldN (w : List (BitVec 32)) (b : List (BitVec 8)) : Nat → List (BitVec 32)
  | 0 => w
  | n + 1 => mix (foldN w b n) (block b n)
def fold (w : List (BitVec 32)) (b : List (BitVec 8)) : List (BitVec 32) := foldN w b (b.length / 64)
theorem foldN_length (w : List (BitVec 32)) (b : List (BitVec 8)) (n : Nat) (h : w.length = 8) : (foldN w b n).length = 8 := by
  induction n with
  | zero => exact h
  | succ n ih => exact mix_length _ _ ih
theorem block_length (b : List (BitVec 8)) (k : Nat) (h : 64 * k + 64 ≤ b.length) : (block b k).length = 64 := by simp [block]; omega
theorem block_append (b c : List (BitVec 8)) (k : Nat) (h : 64 * k + 64 ≤ b.length) : block (b ++ c) k = block b k := by
  unfold block
  rw [List.drop_append_of_le_length (by omega), List.take_append_of_le_length (by simp; omega)]
theorem block_behind (b c : List (BitVec 8)) (m k : Nat) (h : b.length = 64 * m) : block (b ++ c) (m + k) = block c k := by
  unfold block
  rw [Nat.mul_add, ← h, List.drop_append, List.drop_of_length_le (by omega), List.nil_append, Nat.add_sub_cancel_left]
theorem foldN_append (w : List (BitVec 32)) (b c : List (BitVec 8)) (n : Nat) (h : 64 * n ≤ b.length) : foldN w (b ++ c) n = foldN w b n := by
  induction n with
  | zero => rfl
  | succ n ih => rw [foldN, foldN, ih (by omega), block_append _ _ _ (by omega)]
theorem foldN_behind (w : List (BitVec 32)) (b c : List (BitVec 8)) (m n : Nat) (h : b.length = 64 * m) : foldN w (b ++ c) (m + n) = foldN (foldN w b m) c n := by
  induction n with
  | zero => exact foldN_append w b c m (by omega)
  | succ n ih => rw [← Nat.add_assoc, foldN, foldN, ih, block_behind _ _ _ _ h]
/-- What was folded already goes on. -/
theorem fold_append (w : List (BitVec 32)) (b c : List (BitVec 8)) (h : b.length % 64 = 0) : fold w (b ++ c) = fold (fold w b) c := by
  unfold fold
  rw [List.length_append, show (b.length + c.length) / 64 = b.length / 64 + c.length / 64 by omega, foldN_behind _ _ _ _ _ (by omega)]

def byteOf (x : BitVec 32) (j : Nat) : BitVec 8 := (x >>> (24 - 8 * j)).setWidth 8
def told (w : List (BitVec 32)) : List (BitVec 8) := (List.range 32).map fun j => byteOf (w.getD (j / 4) 0) (j % 4)
theorem told_length (w : List (BitVec 32)) : (told w).length = 32 := by simp [told]
def words (h : List (BitVec 8)) : List (BitVec 32) := (List.range 8).map (wordAt h)
theorem words_length (h : List (BitVec 8)) : (words h).length = 8 := by simp [words]
def sum (b : List (BitVec 8)) : List (BitVec 8) := told (fold starts (b ++ behind b.length))
theorem sum_length (b : List (BitVec 8)) : (sum b).length = 32 := told_length _
def resume (h : List (BitVec 8)) (n : Nat) (more : List (BitVec 8)) : List (BitVec 8) :=
  told (fold (words h) (more ++ behind (n + (behind n).length + more.length)))
theorem be4_bytes (x : BitVec 32) : be4 (byteOf x 0) (byteOf x 1) (byteOf x 2) (byteOf x 3) = x := by
  ext i hi
  simp only [be4, byteOf, BitVec.getElem_or, BitVec.getElem_shiftLeft, BitVec.getElem_setWidth, BitVec.getLsbD_setWidth, BitVec.getLsbD_ushiftRight]
  by_cases h1 : i < 8
  · simp [h1, show i < 16 by omega, show i < 24 by omega, hi]
  · by_cases h2 : i < 16
    · simp [h1, h2, show i < 24 by omega, show i - 8 < 8 by omega, show 8 + (i - 8) = i by omega, hi]
    · by_cases h3 : i < 24
      · simp [h1, h2, h3, show i - 16 < 8 by omega, show 16 + (i - 16) = i by omega, show ¬ i - 8 < 8 by omega, hi]
      · simp [h1, h2, h3, show i - 24 < 8 by omega, show 24 + (i - 24) = i by omega, show ¬ i - 8 < 8 by omega, show ¬ i - 16 < 8 by omega, hi]
theorem told_at (w : List (BitVec 32)) (i j : Nat) (hi : i < 8) (hj : j < 4) : (told w).getD (4 * i + j) 0 = byteOf (w.getD i 0) j := by
  simp only [told, List.getD, List.getElem?_map, List.getElem?_range (show 4 * i + j < 32 by omega), Option.map_some, Option.getD_some]
  rw [show (4 * i + j) / 4 = i by omega, show (4 * i + j) % 4 = j by omega]
theorem words_told (w : List (BitVec 32)) (h : w.length = 8) : words (told w) = w := by
  apply List.ext_getElem?
  intro i
  by_cases hi : i < 8
  · have e0 := told_at w i 0 hi (by omega)
    rw [Nat.add_zero] at e0
    simp only [words, List.getElem?_map, List.getElem?_range hi, Option.map_some, wordAt, e0, told_at w i 1 hi (by omega), told_at w i 2 hi (by omega), told_at w i 3 hi (by omega), be4_bytes]
    simp [List.getD, h, hi]
  · rw [List.getElem?_eq_none (by rw [words_length]; omega), List.getElem?_eq_none (by omega)]
theorem starts_length : starts.length = 8 := rfl
/-- Going on from a digest tells the digest of it all. -/
theorem resume_sum (b more : List (BitVec 8)) : resume (sum b) b.length more = sum (b ++ behind b.length ++ more) := by
  unfold resume sum
  rw [show words (told (fold starts (b ++ behind b.length))) = fold starts (b ++ behind b.length) from words_told _ (foldN_length _ _ _ starts_length), ← fold_append _ _ _ (by rw [List.length_append]; exact behind_whole _)]
  simp [Nat.add_assoc]
end Go.Proofs.YtnoilogepkelaaaDoor.Sha
namespace Go.Proofs.YtnoilogepkelaaaDoor.Sha
set_option linter.unusedVariables false
set_option linter.unusedSimpArgs false

def ringNew (r : List (BitVec 32)) (i : Nat) : BitVec 32 := r.getD (i % 16) 0 + (small (r.getD ((i + 1) % 16) 0) 7 18 3 + r.getD ((i + 9) % 16) 0 + small (r.getD ((i + 14) % 16) 0) 17 19 10)
/-- The ring behind step i. -/
def ringNext (r : List (BitVec 32)) (i : Nat) : List (BitVec 32) := if 16 ≤ i then r.set (i % 16) (ringNew r i) else r
theorem ringNext_length (r : List (BitVec 32)) (i : Nat) : (ringNext r i).length = r.length := by unfold ringNext; split <;> simp
/-- The ring ahead of step i. -/
def ring (b : List (BitVec 8)) : Nat → List (BitVec 32)
  | 0 => (List.range 16).map (wordAt b)
  | i + 1 => ringNext (ring b i) i
theorem ring_length (b : List (BitVec 8)) (i : Nat) : (ring b i).length = 16 := by
  induction i with
  | zero => simp [ring]
  | succ i ih => rw [ring, ringNext_length, ih]
/-- Which word stands at a place of the ring. -/
def at_ (i p : Nat) : Nat := if i ≤ 16 then p else i - 16 + (p + 16 - i % 16) % 16
theorem sched_word (b : List (BitVec 8)) (p : Nat) (h : p < 16) : (sched b 64).getD p 0 = wordAt b p := by
  rw [sched_last b p 64 (by omega), next, if_pos h]
theorem sched_next (b : List (BitVec 8)) (n : Nat) (h : 16 ≤ n) (hn : n < 64) :
    (sched b 64).getD n 0 = (sched b 64).getD (n - 16) 0 + small ((sched b 64).getD (n - 15) 0) 7 18 3 + (sched b 64).getD (n - 7) 0 + small ((sched b 64).getD (n - 2) 0) 17 19 10 := by
  rw [sched_last b n 64 hn, next, if_neg (by omega), sched_getD b n 64 (n - 16) (by omega) (by omega), sched_getD b n 64 (n - 15) (by omega) (by omega), sched_getD b n 64 (n - 7) (by omega) (by omega), sched_getD b n 64 (n - 2) (by omega) (by omega)]
theorem ring_at (b : List (BitVec 8)) (i : Nat) (hi : i ≤ 64) : ∀ p, p < 16 → (ring b i).getD p 0 = (sched b 64).getD (at_ i p) 0 := by
  induction i with
  | zero =>
    intro p hp
    rw [ring, at_, if_pos (by omega), sched_word b p hp]
    simp [List.getD, hp]
  | succ i ih =>
    intro p hp
    have ih := ih (by omega)
    rw [ring]
    unfold ringNext
    by_cases h : 16 ≤ i
    · rw [if_pos h]
      have hl := ring_length b i
      by_cases hp2 : i % 16 = p
      · subst hp2
        have e : ((ring b i).set (i % 16) (ringNew (ring b i) i)).getD (i % 16) 0 = ringNew (ring b i) i := by
          simp [List.getD, List.getElem?_set, hl, hp]
        rw [e, show at_ (i + 1) (i % 16) = i by unfold at_; rw [if_neg (by omega)]; omega, sched_next b i h (by omega)]
        unfold ringNew
        rw [ih _ (by omega), ih _ (by omega), ih _ (by omega), ih _ (by omega)]
        rw [show at_ i (i % 16) = i - 16 by unfold at_; split <;> omega, show at_ i ((i + 1) % 16) = i - 15 by unfold at_; split <;> omega, show at_ i ((i + 9) % 16) = i - 7 by unfold at_; split <;> omega, show at_ i ((i + 14) % 16) = i - 2 by unfold at_; split <;> omega]
        simp only [BitVec.add_assoc]
      · have e : ((ring b i).set (i % 16) (ringNew (ring b i) i)).getD p 0 = (ring b i).getD p 0 := by
          simp [List.getD, List.getElem?_set, hp2]
        rw [e, ih p hp, show at_ (i + 1) p = at_ i p by unfold at_; rw [if_neg (by omega)]; split <;> omega]
    · rw [if_neg h, ih p hp, show at_ (i + 1) p = at_ i p by unfold at_; rw [if_pos (by omega), if_pos (by omega)]]
/-- What step i answers. -/
theorem ring_word (b : List (BitVec 8)) (i : Nat) (hi : i < 64) : (ring b (i + 1)).getD (i % 16) 0 = (sched b 64).getD i 0 := by
  rw [ring_at b (i + 1) (by omega) _ (by omega), show at_ (i + 1) (i % 16) = i by unfold at_; split <;> omega]
end Go.Proofs.YtnoilogepkelaaaDoor.Sha
namespace Go.Proofs.YtnoilogepkelaaaDoor
set_option linter.unusedVariables false
set_option linter.unusedSimpArgs false
open Go Go.RowKit
attribute [local go_sem] u32_add u32_sub u32_xor u32_or u32_and' u32_shl u32_shr

theorem large_any (x : BitVec 32) (a b c : Nat) (ha : a ≤ 32) (hb : b ≤ 32) (hc : c ≤ 32) (h0 : 0 < a) (h1 : 0 < b) (h2 : 0 < c) (w : World) :
    Calls Tryd.prog 60 #[.int .u32 (wv x), .int .i64 (a : Int), .int .i64 (b : Int), .int .i64 (c : Int)] w fun e w' => e = .returned (.int .u32 (wv (Sha.large x a b c))) ∧ w = w' := by
  have HR := Lib.hid (fun (n : Nat) (h0 : 0 < n) (hn : n ≤ 32) (w : World) => (show Calls Tryd.prog 87 #[.int .u32 (wv x), .int .i64 (-(n : Int))] w fun e w' => e = .returned (.int .u32 (wv (Sha.rr x n))) ∧ w = w' from by
    have h := rotl_any x (-(n : Int)) w
    rw [show ((-(n : Int)) % 32).toNat = if n = 32 then 0 else 32 - n by split <;> omega] at h
    unfold Sha.rr
    by_cases e : n = 32
    · subst e; exact h
    · rw [if_neg e] at h; exact h))
  have HL := Lib.hid (show Sha.large x a b c = Sha.rr x a ^^^ Sha.rr x b ^^^ Sha.rr x c from rfl)
  generalize Sha.large x a b c = L at *
  go_enter Tryd.func60, Tryd.ntmps60
  go_wp2_with (first
    | (go_at_call 87; with_reducible refine Calls.mono (HR.out a h0 ha _) ?_; rintro e w' ⟨rfl, rfl⟩)
    | (go_at_call 87; with_reducible refine Calls.mono (HR.out b h1 hb _) ?_; rintro e w' ⟨rfl, rfl⟩)
    | (go_at_call 87; with_reducible refine Calls.mono (HR.out c h2 hc _) ?_; rintro e w' ⟨rfl, rfl⟩))
  go_ret
  exact ⟨ret_int (by rw [HL.out]), rfl⟩

theorem rr_call (x : BitVec 32) (n : Nat) (h0 : 0 < n) (hn : n ≤ 32) (w : World) : Calls Tryd.prog 87 #[.int .u32 (wv x), .int .i64 (-(n : Int))] w fun e w' => e = .returned (.int .u32 (wv (Sha.rr x n))) ∧ w' = w := by
  have h := rotl_any x (-(n : Int)) w
  rw [show ((-(n : Int)) % 32).toNat = if n = 32 then 0 else 32 - n by split <;> omega] at h
  unfold Sha.rr
  by_cases e : n = 32
  · subst e; exact h.mono fun e w' h => ⟨h.1, h.2.symm⟩
  · rw [if_neg e] at h; exact h.mono fun e w' h => ⟨h.1, h.2.symm⟩
theorem shr_num (x : BitVec 32) (n : Nat) : wv x / (2 ^ n : Nat) = wv (x >>> n) := by
  simp only [wv, BitVec.toNat_ushiftRight, Nat.shiftRight_eq_div_pow]
  omega

set_option maxRecDepth 100000 in
set_option maxHeartbeats 1000000 in
theorem small_0 (x : BitVec 32) (w : World) : Calls Tryd.prog 88 #[.int .u32 (wv x), .int .i64 7, .int .i64 18, .int .i64 3] w fun e w' => e = .returned (.int .u32 (wv (Sha.small x 7 18 3))) ∧ ∃ n, w' = w.drewN n := by
  have HL := Lib.hid (show Sha.small x 7 18 3 = Sha.rr x 7 ^^^ Sha.rr x 18 ^^^ x >>> 3 from rfl)
  have HA := Lib.hid (fun w => (show Calls Tryd.prog 87 #[.int .u32 (wv x), .int .i64 (-7)] w fun e w' => e = .returned (.int .u32 (wv (Sha.rr x 7))) ∧ w' = w from rr_call x 7 (by omega) (by omega) w))
  have HB := Lib.hid (fun w => (show Calls Tryd.prog 87 #[.int .u32 (wv x), .int .i64 (-18)] w fun e w' => e = .returned (.int .u32 (wv (Sha.rr x 18))) ∧ w' = w from rr_call x 18 (by omega) (by omega) w))
  generalize Sha.small x 7 18 3 = L at *
  go_enter Tryd.func88, Tryd.ntmps88
  go_wp2
  go_quiet ((first | (go_at_call 87; with_reducible exact Calls.quiet_of_same (HA.out _)) | (go_at_call 87; with_reducible exact Calls.quiet_of_same (HB.out _))))
  go_wp2
  go_ret
  have e8 : wv x / (8 : Int) = wv (x >>> 3) := by rw [← shr_num x 3]; rfl
  exact ⟨ret_int (by rw [e8, u32_xor, HL.out]), _, rfl⟩
set_option maxRecDepth 100000 in
set_option maxHeartbeats 1000000 in
theorem small_1 (x : BitVec 32) (w : World) : Calls Tryd.prog 88 #[.int .u32 (wv x), .int .i64 17, .int .i64 19, .int .i64 10] w fun e w' => e = .returned (.int .u32 (wv (Sha.small x 17 19 10))) ∧ ∃ n, w' = w.drewN n := by
  have HL := Lib.hid (show Sha.small x 17 19 10 = Sha.rr x 17 ^^^ Sha.rr x 19 ^^^ x >>> 10 from rfl)
  have HA := Lib.hid (fun w => (show Calls Tryd.prog 87 #[.int .u32 (wv x), .int .i64 (-17)] w fun e w' => e = .returned (.int .u32 (wv (Sha.rr x 17))) ∧ w' = w from rr_call x 17 (by omega) (by omega) w))
  have HB := Lib.hid (fun w => (show Calls Tryd.prog 87 #[.int .u32 (wv x), .int .i64 (-19)] w fun e w' => e = .returned (.int .u32 (wv (Sha.rr x 19))) ∧ w' = w from rr_call x 19 (by omega) (by omega) w))
  generalize Sha.small x 17 19 10 = L at *
  go_enter Tryd.func88, Tryd.ntmps88
  go_wp2
  go_quiet ((first | (go_at_call 87; with_reducible exact Calls.quiet_of_same (HA.out _)) | (go_at_call 87; with_reducible exact Calls.quiet_of_same (HB.out _))))
  go_wp2
  go_ret
  have e8 : wv x / (1024 : Int) = wv (x >>> 10) := by rw [← shr_num x 10]; rfl
  exact ⟨ret_int (by rw [e8, u32_xor, HL.out]), _, rfl⟩

set_option maxRecDepth 100000 in
set_option maxHeartbeats 4000000 in
theorem next_any (r : List (BitVec 32)) (hr : r.length = 16) (R i : Nat) (hi : i < 64) (t : TypeId) (w : World) (hR : w.heap[R]? = some (.cells (words r) t (0, 0))) :
    Calls Tryd.prog 61 #[.pointer (some ⟨R, 0, none⟩), .int .i64 (i : Int)] w fun e w' => e = .returned (.int .u32 (wv ((Sha.ringNext r i).getD (i % 16) 0))) ∧ w'.heap[R]? = some (.cells (words (Sha.ringNext r i)) t (0, 0)) ∧ Kept [R] w w' := by
  have hc : ∀ p, p < 16 → w.cell? ⟨R, p, none⟩ = some (.int .u32 (wv (r.getD p 0))) := fun p hp => (cell_of_row w R p _ _ _ hR).trans (words_get? r p (by omega))
  by_cases h16 : 16 ≤ i
  · obtain ⟨p0, hp0, l0⟩ : ∃ p, i % 16 = p ∧ p < 16 := ⟨_, rfl, by omega⟩
    obtain ⟨p1, hp1, l1⟩ : ∃ p, (i + 1) % 16 = p ∧ p < 16 := ⟨_, rfl, by omega⟩
    obtain ⟨p2, hp2, l2⟩ : ∃ p, (i + 9) % 16 = p ∧ p < 16 := ⟨_, rfl, by omega⟩
    obtain ⟨p3, hp3, l3⟩ : ∃ p, (i + 14) % 16 = p ∧ p < 16 := ⟨_, rfl, by omega⟩
    have c0 := hc p0 l0
    have c1 := hc p1 l1
    have c2 := hc p2 l2
    have c3 := hc p3 l3
    have fz := frozen_of_row w R p0 _ _ hR
    have hnew : Sha.ringNew r i = r.getD p0 0 + (Sha.small (r.getD p1 0) 7 18 3 + r.getD p2 0 + Sha.small (r.getD p3 0) 17 19 10) := by unfold Sha.ringNew; rw [hp0, hp1, hp2, hp3]
    have hset := heap_setCell_same w R p0 _ _ (.int .u32 (wv (Sha.ringNew r i))) hR
    rw [words_set] at hset
    have HSET := Lib.hid hset
    have HN : Hid (Sha.ringNext r i = r.set p0 (Sha.ringNew r i)) := Lib.hid (by unfold Sha.ringNext; rw [if_pos h16, hp0])
    have hget : (r.set p0 (Sha.ringNew r i)).getD p0 0 = Sha.ringNew r i := by simp [List.getD, List.getElem?_set, hr, l0]
    have HG := Lib.hid hget
    have HNEW := Lib.hid hnew
    generalize Sha.ringNew r i = N at *
    obtain ⟨x0, e0⟩ : ∃ x, r.getD p0 0 = x := ⟨_, rfl⟩
    obtain ⟨x1, e1⟩ : ∃ x, r.getD p1 0 = x := ⟨_, rfl⟩
    obtain ⟨x2, e2⟩ : ∃ x, r.getD p2 0 = x := ⟨_, rfl⟩
    obtain ⟨x3, e3⟩ : ∃ x, r.getD p3 0 = x := ⟨_, rfl⟩
    rw [e0] at c0 HNEW
    rw [e1] at c1 HNEW
    rw [e2] at c2 HNEW
    rw [e3] at c3 HNEW
    have m0 : (i : Int) % 16 = p0 := by omega
    have m1 : ((i : Int) + 1) % 16 = p1 := by omega
    have m2 : ((i : Int) + 9) % 16 = p2 := by omega
    have m3 : ((i : Int) + 14) % 16 = p3 := by omega
    have HP := Lib.hid hp0
    have HI0 := Lib.hid hp0
    clear hset hget hnew hp0 hp1 hp2 hp3 e0 e1 e2 e3 hc
    go_enter Tryd.func61, Tryd.ntmps61
    go_upto_region 3 with fail
    have n1 : ¬ p0 = p1 := by have := HP.out; omega
    have n2 : ¬ p0 = p2 := by have := HP.out; omega
    have n3 : ¬ p0 = p3 := by have := HP.out; omega
    have n1' : ¬ p1 = p0 := fun e => n1 e.symm
    have n2' : ¬ p2 = p0 := fun e => n2 e.symm
    have n3' : ¬ p3 = p0 := fun e => n3 e.symm
    have i0 : (p0 : Int) < 16 := by omega
    have i1 : (p1 : Int) < 16 := by omega
    have i2 : (p2 : Int) < 16 := by omega
    have i3 : (p3 : Int) < 16 := by omega
    have w1 : IntKind.i64.wrap ((i : Int) + 1) = i + 1 := by rw [IntKind.wrap_i64]; omega
    have w2 : IntKind.i64.wrap ((i : Int) + 9) = i + 9 := by rw [IntKind.wrap_i64]; omega
    have w3 : IntKind.i64.wrap ((i : Int) + 14) = i + 14 := by rw [IntKind.wrap_i64]; omega
    have v0 : IntKind.i64.wrap (p0 : Int) = p0 := by rw [IntKind.wrap_i64]; omega
    have v1 : IntKind.i64.wrap (p1 : Int) = p1 := by rw [IntKind.wrap_i64]; omega
    have v2 : IntKind.i64.wrap (p2 : Int) = p2 := by rw [IntKind.wrap_i64]; omega
    have v3 : IntKind.i64.wrap (p3 : Int) = p3 := by rw [IntKind.wrap_i64]; omega
    have t1 : ((i : Int) + 1).tmod 16 = p1 := by rw [Int.tmod_eq_emod_of_nonneg (by omega)]; omega
    have t2 : ((i : Int) + 9).tmod 16 = p2 := by rw [Int.tmod_eq_emod_of_nonneg (by omega)]; omega
    have t3 : ((i : Int) + 14).tmod 16 = p3 := by rw [Int.tmod_eq_emod_of_nonneg (by omega)]; omega
    have HA := Lib.hid (small_0 x1)
    have HB := Lib.hid (small_1 x3)
    clear hi l0 l1 l2 l3 HP
    have hN := HNEW.out
    subst hN
    have HW := Lib.hid (fun m : Nat => (show ((w.drewN m).setCell ⟨R, p0, none⟩ (.int .u32 (wv (x0 + (Sha.small x1 7 18 3 + x2 + Sha.small x3 17 19 10))))).heap[R]? = some (.cells (words (r.set p0 (x0 + (Sha.small x1 7 18 3 + x2 + Sha.small x3 17 19 10)))) t (0, 0)) from HSET.out))
    go_cut [5] (fun s5 wx => s5 = .int .i64 p0 ∧ Hid (wx.heap[R]? = some (.cells (words (r.set p0 (x0 + (Sha.small x1 7 18 3 + x2 + Sha.small x3 17 19 10)))) t (0, 0))) ∧ Hid (Kept [R] w wx))
    case first =>
      refine wp_region_held_drew (S := fun w' => w'.cell? ⟨R, p1, none⟩ = some (.int .u32 (wv x1)) ∧ w'.cell? ⟨R, p2, none⟩ = some (.int .u32 (wv x2)) ∧ w'.cell? ⟨R, p3, none⟩ = some (.int .u32 (wv x3))) (by kernel_rfl) ⟨c1, c2, c3⟩ (fun hHeld => ?_)
      refine wpAnyH_take (i := 0) (v := ?v1) rfl (by kernel_rfl) (by kernel_rfl) (by kernel_rfl) (fun _ _ _ h => h) (Or.inl ⟨by rfl, ?y1⟩) (by assumption) ?r1
      case y1 =>
        intro w' hSw
        go_split_ands
        go_simp
        try with_reducible rfl
      try simp only [List.getElem_toArray, List.getElem_cons_zero, List.getElem_cons_succ, Act.put, List.setIfInBounds_toArray, List.set_cons_zero, List.set_cons_succ]
      refine wpAnyH_take (i := 1) (v := ?v2) rfl (by kernel_rfl) (by kernel_rfl) (by kernel_rfl) (fun _ _ _ h => h) (Or.inl ⟨by rfl, ?y2⟩) (by assumption) ?r2
      case y2 =>
        intro w' hSw
        go_split_ands
        go_simp
        try with_reducible rfl
      try simp only [List.getElem_toArray, List.getElem_cons_zero, List.getElem_cons_succ, Act.put, List.setIfInBounds_toArray, List.set_cons_zero, List.set_cons_succ]
      refine wpAnyH_take (i := 2) (v := ?v3) rfl (by kernel_rfl) (by kernel_rfl) (by kernel_rfl) (fun _ _ _ h => h) (Or.inl ⟨by rfl, ?y3⟩) (by assumption) ?r3
      case y3 =>
        intro w' hSw
        go_split_ands
        go_simp
        try with_reducible rfl
      try simp only [List.getElem_toArray, List.getElem_cons_zero, List.getElem_cons_succ, Act.put, List.setIfInBounds_toArray, List.set_cons_zero, List.set_cons_succ]
      refine wpAnyH_take (i := 3) (v := ?v4) rfl (by kernel_rfl) (by kernel_rfl) (by kernel_rfl) (fun _ _ _ h => h) (Or.inl ⟨by rfl, ?y4⟩) (by assumption) ?r4
      case y4 =>
        intro w' hSw
        go_split_ands
        go_simp
        try with_reducible rfl
      try simp only [List.getElem_toArray, List.getElem_cons_zero, List.getElem_cons_succ, Act.put, List.setIfInBounds_toArray, List.set_cons_zero, List.set_cons_succ]
      refine wpAnyH_take (i := 5) (v := ?v5) rfl (by kernel_rfl) (by kernel_rfl) (by kernel_rfl) (fun _ _ _ h => h) (Or.inl ⟨by rfl, ?y5⟩) (by assumption) ?r5
      case y5 =>
        intro w' hSw
        go_split_ands
        go_simp
        try with_reducible rfl
      try simp only [List.getElem_toArray, List.getElem_cons_zero, List.getElem_cons_succ, Act.put, List.setIfInBounds_toArray, List.set_cons_zero, List.set_cons_succ]
      refine wpAnyH_take (i := 6) (v := ?v6) rfl (by kernel_rfl) (by kernel_rfl) (by kernel_rfl) (fun _ _ _ h => h) (Or.inl ⟨by rfl, ?y6⟩) (by assumption) ?r6
      case y6 =>
        intro w' hSw
        go_split_ands
        go_simp
        try with_reducible rfl
      try simp only [List.getElem_toArray, List.getElem_cons_zero, List.getElem_cons_succ, Act.put, List.setIfInBounds_toArray, List.set_cons_zero, List.set_cons_succ]
      refine wpAnyH_take (i := 7) (v := ?v7) rfl (by kernel_rfl) (by kernel_rfl) (by kernel_rfl) (fun _ _ _ h => h) (Or.inl ⟨by rfl, ?y7⟩) (by assumption) ?r7
      case y7 =>
        intro w' hSw
        go_split_ands
        go_simp
        try with_reducible rfl
      try simp only [List.getElem_toArray, List.getElem_cons_zero, List.getElem_cons_succ, Act.put, List.setIfInBounds_toArray, List.set_cons_zero, List.set_cons_succ]
      refine wpAnyH_take (i := 8) (v := ?v8) rfl (by kernel_rfl) (by kernel_rfl) (by kernel_rfl) (fun _ _ _ h => h) (Or.inl ⟨by rfl, ?y8⟩) (by assumption) ?r8
      case y8 =>
        intro w' hSw
        go_split_ands
        go_simp
        try with_reducible rfl
      try simp only [List.getElem_toArray, List.getElem_cons_zero, List.getElem_cons_succ, Act.put, List.setIfInBounds_toArray, List.set_cons_zero, List.set_cons_succ]
      refine wpAnyH_take (i := 9) (v := ?v9) rfl (by kernel_rfl) (by kernel_rfl) (by kernel_rfl) (fun _ _ _ h => h) (Or.inl ⟨by rfl, ?y9⟩) (by assumption) ?r9
      case y9 =>
        intro w' hSw
        go_split_ands
        go_simp
        try with_reducible rfl
      try simp only [List.getElem_toArray, List.getElem_cons_zero, List.getElem_cons_succ, Act.put, List.setIfInBounds_toArray, List.set_cons_zero, List.set_cons_succ]
      refine wpAnyH_take (i := 10) (v := ?v10) rfl (by kernel_rfl) (by kernel_rfl) (by kernel_rfl) (fun _ _ _ h => h) (Or.inl ⟨by rfl, ?y10⟩) (by assumption) ?r10
      case y10 =>
        intro w' hSw
        go_split_ands
        go_simp
        try with_reducible rfl
      try simp only [List.getElem_toArray, List.getElem_cons_zero, List.getElem_cons_succ, Act.put, List.setIfInBounds_toArray, List.set_cons_zero, List.set_cons_succ]
      refine wpAnyH_take (i := 11) (v := ?v11) rfl (by kernel_rfl) (by kernel_rfl) (by kernel_rfl) (fun _ _ _ h => h) (Or.inl ⟨by rfl, ?y11⟩) (by assumption) ?r11
      case y11 =>
        intro w' hSw
        go_split_ands
        go_simp
        try with_reducible rfl
      try simp only [List.getElem_toArray, List.getElem_cons_zero, List.getElem_cons_succ, Act.put, List.setIfInBounds_toArray, List.set_cons_zero, List.set_cons_succ]
      refine wpAnyH_take (i := 13) (v := ?v12) rfl (by kernel_rfl) (by kernel_rfl) (by kernel_rfl) (fun _ _ _ h => h) (Or.inl ⟨by rfl, ?y12⟩) (by assumption) ?r12
      case y12 =>
        intro w' hSw
        go_split_ands
        go_simp
        try with_reducible rfl
      try simp only [List.getElem_toArray, List.getElem_cons_zero, List.getElem_cons_succ, Act.put, List.setIfInBounds_toArray, List.set_cons_zero, List.set_cons_succ]
      refine wpAnyH_take (i := 14) (v := ?v13) rfl (by kernel_rfl) (by kernel_rfl) (by kernel_rfl) (fun _ _ _ h => h) (Or.inl ⟨by rfl, ?y13⟩) (by assumption) ?r13
      case y13 =>
        intro w' hSw
        go_split_ands
        go_simp
        try with_reducible rfl
      try simp only [List.getElem_toArray, List.getElem_cons_zero, List.getElem_cons_succ, Act.put, List.setIfInBounds_toArray, List.set_cons_zero, List.set_cons_succ]
      refine wpAnyH_take (i := 15) (v := ?v14) rfl (by kernel_rfl) (by kernel_rfl) (by kernel_rfl) (fun _ _ _ h => h) (Or.inl ⟨by rfl, ?y14⟩) (by assumption) ?r14
      case y14 =>
        intro w' hSw
        go_split_ands
        go_simp
        try with_reducible rfl
      try simp only [List.getElem_toArray, List.getElem_cons_zero, List.getElem_cons_succ, Act.put, List.setIfInBounds_toArray, List.set_cons_zero, List.set_cons_succ]
      refine wpAnyH_take (i := 16) (v := ?v15) rfl (by kernel_rfl) (by kernel_rfl) (by kernel_rfl) (fun _ _ _ h => h) (Or.inl ⟨by rfl, ?y15⟩) (by assumption) ?r15
      case y15 =>
        intro w' hSw
        go_split_ands
        go_simp
        try with_reducible rfl
      try simp only [List.getElem_toArray, List.getElem_cons_zero, List.getElem_cons_succ, Act.put, List.setIfInBounds_toArray, List.set_cons_zero, List.set_cons_succ]
      refine wpAnyH_take (i := 17) (v := ?v16) rfl (by kernel_rfl) (by kernel_rfl) (by kernel_rfl) (fun _ _ _ h => h) (Or.inl ⟨by rfl, ?y16⟩) (by assumption) ?r16
      case y16 =>
        intro w' hSw
        go_split_ands
        go_simp
        try with_reducible rfl
      try simp only [List.getElem_toArray, List.getElem_cons_zero, List.getElem_cons_succ, Act.put, List.setIfInBounds_toArray, List.set_cons_zero, List.set_cons_succ]
      refine wpAnyH_take (i := 18) (v := ?v17) rfl (by kernel_rfl) (by kernel_rfl) (by kernel_rfl) (fun _ _ _ h => h) (Or.inl ⟨by rfl, ?y17⟩) (by assumption) ?r17
      case y17 =>
        intro w' hSw
        go_split_ands
        go_simp
        try with_reducible rfl
      try simp only [List.getElem_toArray, List.getElem_cons_zero, List.getElem_cons_succ, Act.put, List.setIfInBounds_toArray, List.set_cons_zero, List.set_cons_succ]
      refine wpAnyH_take (i := 19) (v := ?v18) rfl (by kernel_rfl) (by kernel_rfl) (by kernel_rfl) (fun _ _ _ h => h) (Or.inl ⟨by rfl, ?y18⟩) (by assumption) ?r18
      case y18 =>
        intro w' hSw
        go_split_ands
        go_simp
        try with_reducible rfl
      try simp only [List.getElem_toArray, List.getElem_cons_zero, List.getElem_cons_succ, Act.put, List.setIfInBounds_toArray, List.set_cons_zero, List.set_cons_succ]
      refine wpAnyH_take (i := 21) (v := ?v19) rfl (by kernel_rfl) (by kernel_rfl) (by kernel_rfl) (fun _ _ _ h => h) (Or.inl ⟨by rfl, ?y19⟩) (by assumption) ?r19
      case y19 =>
        intro w' hSw
        go_split_ands
        go_simp
        try with_reducible rfl
      try simp only [List.getElem_toArray, List.getElem_cons_zero, List.getElem_cons_succ, Act.put, List.setIfInBounds_toArray, List.set_cons_zero, List.set_cons_succ]
      refine wpAnyH_take (i := 22) (v := ?v20) rfl (by kernel_rfl) (by kernel_rfl) (by kernel_rfl) (fun _ _ _ h => h) (Or.inl ⟨by rfl, ?y20⟩) (by assumption) ?r20
      case y20 =>
        intro w' hSw
        go_split_ands
        go_simp
        try with_reducible rfl
      try simp only [List.getElem_toArray, List.getElem_cons_zero, List.getElem_cons_succ, Act.put, List.setIfInBounds_toArray, List.set_cons_zero, List.set_cons_succ]
      refine wpAnyH_take (i := 23) (v := ?v21) rfl (by kernel_rfl) (by kernel_rfl) (by kernel_rfl) (fun _ _ _ h => h) (Or.inl ⟨by rfl, ?y21⟩) (by assumption) ?r21
      case y21 =>
        intro w' hSw
        go_split_ands
        go_simp
        try with_reducible rfl
      try simp only [List.getElem_toArray, List.getElem_cons_zero, List.getElem_cons_succ, Act.put, List.setIfInBounds_toArray, List.set_cons_zero, List.set_cons_succ]
      refine wpAnyH_take (i := 24) (v := ?v22) rfl (by kernel_rfl) (by kernel_rfl) (by kernel_rfl) (fun _ _ _ h => h) (Or.inl ⟨by rfl, ?y22⟩) (by assumption) ?r22
      case y22 =>
        intro w' hSw
        go_split_ands
        go_simp
        try with_reducible rfl
      try simp only [List.getElem_toArray, List.getElem_cons_zero, List.getElem_cons_succ, Act.put, List.setIfInBounds_toArray, List.set_cons_zero, List.set_cons_succ]
      refine wpAnyH_take (i := 25) (v := ?v23) rfl (by kernel_rfl) (by kernel_rfl) (by kernel_rfl) (fun _ _ _ h => h) (Or.inl ⟨by rfl, ?y23⟩) (by assumption) ?r23
      case y23 =>
        intro w' hSw
        go_split_ands
        go_simp
        try with_reducible rfl
      try simp only [List.getElem_toArray, List.getElem_cons_zero, List.getElem_cons_succ, Act.put, List.setIfInBounds_toArray, List.set_cons_zero, List.set_cons_succ]
      refine wpAnyH_take (i := 26) (v := ?v24) rfl (by kernel_rfl) (by kernel_rfl) (by kernel_rfl) (fun _ _ _ h => h) (Or.inl ⟨by rfl, ?y24⟩) (by assumption) ?r24
      case y24 =>
        intro w' hSw
        go_split_ands
        go_simp
        try with_reducible rfl
      try simp only [List.getElem_toArray, List.getElem_cons_zero, List.getElem_cons_succ, Act.put, List.setIfInBounds_toArray, List.set_cons_zero, List.set_cons_succ]
      refine wpAnyH_take (i := 27) (v := ?v25) rfl (by kernel_rfl) (by kernel_rfl) (by kernel_rfl) (fun _ _ _ h => h) (Or.inl ⟨by rfl, ?y25⟩) (by assumption) ?r25
      case y25 =>
        intro w' hSw
        go_split_ands
        go_simp
        try with_reducible rfl
      try simp only [List.getElem_toArray, List.getElem_cons_zero, List.getElem_cons_succ, Act.put, List.setIfInBounds_toArray, List.set_cons_zero, List.set_cons_succ]
      refine wpAnyH_take (i := 31) (v := ?v26) rfl (by kernel_rfl) (by kernel_rfl) (by kernel_rfl) (fun _ _ _ h => h) (Or.inl ⟨by rfl, ?y26⟩) (by assumption) ?r26
      case y26 =>
        intro w' hSw
        go_split_ands
        go_simp
        try with_reducible rfl
      try simp only [List.getElem_toArray, List.getElem_cons_zero, List.getElem_cons_succ, Act.put, List.setIfInBounds_toArray, List.set_cons_zero, List.set_cons_succ]
      refine wpAnyH_ready (rs := [4, 12]) (by kernel_rfl) (by simp) ?_
      refine AllReadyH.cons (i := 4) rfl (fun K hK => ?_) ?_
      · go_simp
        refine hK.out _ _ ⟨c1, c2, c3⟩ (fun hHeld' => ?_)
        clear hHeld hK K
        have hHeld := hHeld'
        clear hHeld'
        try simp only [List.getElem_toArray, List.getElem_cons_zero, List.getElem_cons_succ, Act.put, List.setIfInBounds_toArray, List.set_cons_zero, List.set_cons_succ]
        refine wpAnyH_ready (rs := [12]) (by kernel_rfl) (by simp) ?_
        refine AllReadyH.cons (i := 12) rfl (fun K hK => ?_) AllReadyH.nil
        go_simp
        go_at_call 88
        refine (HA.out _).mono ?_
        rintro e wa ⟨rfl, m1, rfl⟩
        refine hK.out _ _ ⟨c1, c2, c3⟩ (fun hHeld' => ?_)
        clear hHeld hK K
        have hHeld := hHeld'
        clear hHeld'
        try simp only [List.getElem_toArray, List.getElem_cons_zero, List.getElem_cons_succ, Act.put, List.setIfInBounds_toArray, List.set_cons_zero, List.set_cons_succ]
        refine wpAnyH_take (i := 20) (v := ?v27) rfl (by kernel_rfl) (by kernel_rfl) (by kernel_rfl) (fun _ _ _ h => h) (Or.inl ⟨by rfl, ?y27⟩) (by assumption) ?r27
        case y27 =>
          intro w' hSw
          go_split_ands
          go_simp
          try with_reducible rfl
        try simp only [List.getElem_toArray, List.getElem_cons_zero, List.getElem_cons_succ, Act.put, List.setIfInBounds_toArray, List.set_cons_zero, List.set_cons_succ]
        refine wpAnyH_ready (rs := [28]) (by kernel_rfl) (by simp) ?_
        refine AllReadyH.cons (i := 28) rfl (fun K hK => ?_) AllReadyH.nil
        go_simp
        go_at_call 88
        refine (HB.out _).mono ?_
        rintro e wa ⟨rfl, m2, rfl⟩
        refine hK.out _ _ ⟨c1, c2, c3⟩ (fun hHeld' => ?_)
        clear hHeld hK K
        have hHeld := hHeld'
        clear hHeld'
        try simp only [List.getElem_toArray, List.getElem_cons_zero, List.getElem_cons_succ, Act.put, List.setIfInBounds_toArray, List.set_cons_zero, List.set_cons_succ]
        refine wpAnyH_take (i := 29) (v := ?v28) rfl (by kernel_rfl) (by kernel_rfl) (by kernel_rfl) (fun _ _ _ h => h) (Or.inl ⟨by rfl, ?y28⟩) (by assumption) ?r28
        case y28 =>
          intro w' hSw
          go_split_ands
          go_simp
          try with_reducible rfl
        try simp only [List.getElem_toArray, List.getElem_cons_zero, List.getElem_cons_succ, Act.put, List.setIfInBounds_toArray, List.set_cons_zero, List.set_cons_succ]
        refine wpAnyH_take (i := 30) (v := ?v29) rfl (by kernel_rfl) (by kernel_rfl) (by kernel_rfl) (fun _ _ _ h => h) (Or.inl ⟨by rfl, ?y29⟩) (by assumption) ?r29
        case y29 =>
          intro w' hSw
          go_split_ands
          go_simp
          try with_reducible rfl
        try simp only [List.getElem_toArray, List.getElem_cons_zero, List.getElem_cons_succ, Act.put, List.setIfInBounds_toArray, List.set_cons_zero, List.set_cons_succ]
        refine wpAnyH_take (i := 32) (v := ?v30) rfl (by kernel_rfl) (by kernel_rfl) (by kernel_rfl) (fun _ _ _ h => h) (Or.inl ⟨by rfl, ?y30⟩) (by assumption) ?r30
        case y30 =>
          intro w' hSw
          go_split_ands
          go_simp
          try with_reducible rfl
        try simp only [List.getElem_toArray, List.getElem_cons_zero, List.getElem_cons_succ, Act.put, List.setIfInBounds_toArray, List.set_cons_zero, List.set_cons_succ]
        refine wpAnyH_ready (rs := [33]) (by kernel_rfl) (by simp) ?_
        refine AllReadyH.cons (i := 33) rfl (fun K hK => ?_) AllReadyH.nil
        go_simp
        refine hK.out _ _ ⟨by simp [*, World.cell?_setCell_other], by simp [*, World.cell?_setCell_other], by simp [*, World.cell?_setCell_other]⟩ (fun hHeld' => ?_)
        clear hHeld hK K hHeld'
        try simp only [List.getElem_toArray, List.getElem_cons_zero, List.getElem_cons_succ, Act.put, List.setIfInBounds_toArray, List.set_cons_zero, List.set_cons_succ]
        refine wpAnyH_done (by kernel_rfl) ?_ _
        go_wp2_with fail
        go_meet
        exact ⟨rfl, Lib.hid (HW.out _), Lib.hid (((Kept.refl [R] w).drewN _).setCell (by simp) _)⟩
      · refine AllReadyH.cons (i := 12) rfl (fun K hK => ?_) AllReadyH.nil
        go_simp
        go_at_call 88
        refine (HA.out _).mono ?_
        rintro e wa ⟨rfl, m1, rfl⟩
        refine hK.out _ _ ⟨c1, c2, c3⟩ (fun hHeld' => ?_)
        clear hHeld hK K
        have hHeld := hHeld'
        clear hHeld'
        try simp only [List.getElem_toArray, List.getElem_cons_zero, List.getElem_cons_succ, Act.put, List.setIfInBounds_toArray, List.set_cons_zero, List.set_cons_succ]
        refine wpAnyH_take (i := 20) (v := ?v31) rfl (by kernel_rfl) (by kernel_rfl) (by kernel_rfl) (fun _ _ _ h => h) (Or.inl ⟨by rfl, ?y31⟩) (by assumption) ?r31
        case y31 =>
          intro w' hSw
          go_split_ands
          go_simp
          try with_reducible rfl
        try simp only [List.getElem_toArray, List.getElem_cons_zero, List.getElem_cons_succ, Act.put, List.setIfInBounds_toArray, List.set_cons_zero, List.set_cons_succ]
        refine wpAnyH_ready (rs := [4, 28]) (by kernel_rfl) (by simp) ?_
        refine AllReadyH.cons (i := 4) rfl (fun K hK => ?_) ?_
        · go_simp
          refine hK.out _ _ ⟨c1, c2, c3⟩ (fun hHeld' => ?_)
          clear hHeld hK K
          have hHeld := hHeld'
          clear hHeld'
          try simp only [List.getElem_toArray, List.getElem_cons_zero, List.getElem_cons_succ, Act.put, List.setIfInBounds_toArray, List.set_cons_zero, List.set_cons_succ]
          refine wpAnyH_ready (rs := [28]) (by kernel_rfl) (by simp) ?_
          refine AllReadyH.cons (i := 28) rfl (fun K hK => ?_) AllReadyH.nil
          go_simp
          go_at_call 88
          refine (HB.out _).mono ?_
          rintro e wa ⟨rfl, m2, rfl⟩
          refine hK.out _ _ ⟨c1, c2, c3⟩ (fun hHeld' => ?_)
          clear hHeld hK K
          have hHeld := hHeld'
          clear hHeld'
          try simp only [List.getElem_toArray, List.getElem_cons_zero, List.getElem_cons_succ, Act.put, List.setIfInBounds_toArray, List.set_cons_zero, List.set_cons_succ]
          refine wpAnyH_take (i := 29) (v := ?v32) rfl (by kernel_rfl) (by kernel_rfl) (by kernel_rfl) (fun _ _ _ h => h) (Or.inl ⟨by rfl, ?y32⟩) (by assumption) ?r32
          case y32 =>
            intro w' hSw
            go_split_ands
            go_simp
            try with_reducible rfl
          try simp only [List.getElem_toArray, List.getElem_cons_zero, List.getElem_cons_succ, Act.put, List.setIfInBounds_toArray, List.set_cons_zero, List.set_cons_succ]
          refine wpAnyH_take (i := 30) (v := ?v33) rfl (by kernel_rfl) (by kernel_rfl) (by kernel_rfl) (fun _ _ _ h => h) (Or.inl ⟨by rfl, ?y33⟩) (by assumption) ?r33
          case y33 =>
            intro w' hSw
            go_split_ands
            go_simp
            try with_reducible rfl
          try simp only [List.getElem_toArray, List.getElem_cons_zero, List.getElem_cons_succ, Act.put, List.setIfInBounds_toArray, List.set_cons_zero, List.set_cons_succ]
          refine wpAnyH_take (i := 32) (v := ?v34) rfl (by kernel_rfl) (by kernel_rfl) (by kernel_rfl) (fun _ _ _ h => h) (Or.inl ⟨by rfl, ?y34⟩) (by assumption) ?r34
          case y34 =>
            intro w' hSw
            go_split_ands
            go_simp
            try with_reducible rfl
          try simp only [List.getElem_toArray, List.getElem_cons_zero, List.getElem_cons_succ, Act.put, List.setIfInBounds_toArray, List.set_cons_zero, List.set_cons_succ]
          refine wpAnyH_ready (rs := [33]) (by kernel_rfl) (by simp) ?_
          refine AllReadyH.cons (i := 33) rfl (fun K hK => ?_) AllReadyH.nil
          go_simp
          refine hK.out _ _ ⟨by simp [*, World.cell?_setCell_other], by simp [*, World.cell?_setCell_other], by simp [*, World.cell?_setCell_other]⟩ (fun hHeld' => ?_)
          clear hHeld hK K hHeld'
          try simp only [List.getElem_toArray, List.getElem_cons_zero, List.getElem_cons_succ, Act.put, List.setIfInBounds_toArray, List.set_cons_zero, List.set_cons_succ]
          refine wpAnyH_done (by kernel_rfl) ?_ _
          go_wp2_with fail
          go_meet
          exact ⟨rfl, Lib.hid (HW.out _), Lib.hid (((Kept.refl [R] w).drewN _).setCell (by simp) _)⟩
        · refine AllReadyH.cons (i := 28) rfl (fun K hK => ?_) AllReadyH.nil
          go_simp
          go_at_call 88
          refine (HB.out _).mono ?_
          rintro e wa ⟨rfl, m2, rfl⟩
          refine hK.out _ _ ⟨c1, c2, c3⟩ (fun hHeld' => ?_)
          clear hHeld hK K
          have hHeld := hHeld'
          clear hHeld'
          try simp only [List.getElem_toArray, List.getElem_cons_zero, List.getElem_cons_succ, Act.put, List.setIfInBounds_toArray, List.set_cons_zero, List.set_cons_succ]
          refine wpAnyH_take (i := 29) (v := ?v35) rfl (by kernel_rfl) (by kernel_rfl) (by kernel_rfl) (fun _ _ _ h => h) (Or.inl ⟨by rfl, ?y35⟩) (by assumption) ?r35
          case y35 =>
            intro w' hSw
            go_split_ands
            go_simp
            try with_reducible rfl
          try simp only [List.getElem_toArray, List.getElem_cons_zero, List.getElem_cons_succ, Act.put, List.setIfInBounds_toArray, List.set_cons_zero, List.set_cons_succ]
          refine wpAnyH_ready (rs := [4]) (by kernel_rfl) (by simp) ?_
          refine AllReadyH.cons (i := 4) rfl (fun K hK => ?_) AllReadyH.nil
          go_simp
          refine hK.out _ _ ⟨c1, c2, c3⟩ (fun hHeld' => ?_)
          clear hHeld hK K
          have hHeld := hHeld'
          clear hHeld'
          try simp only [List.getElem_toArray, List.getElem_cons_zero, List.getElem_cons_succ, Act.put, List.setIfInBounds_toArray, List.set_cons_zero, List.set_cons_succ]
          refine wpAnyH_take (i := 30) (v := ?v36) rfl (by kernel_rfl) (by kernel_rfl) (by kernel_rfl) (fun _ _ _ h => h) (Or.inl ⟨by rfl, ?y36⟩) (by assumption) ?r36
          case y36 =>
            intro w' hSw
            go_split_ands
            go_simp
            try with_reducible rfl
          try simp only [List.getElem_toArray, List.getElem_cons_zero, List.getElem_cons_succ, Act.put, List.setIfInBounds_toArray, List.set_cons_zero, List.set_cons_succ]
          refine wpAnyH_take (i := 32) (v := ?v37) rfl (by kernel_rfl) (by kernel_rfl) (by kernel_rfl) (fun _ _ _ h => h) (Or.inl ⟨by rfl, ?y37⟩) (by assumption) ?r37
          case y37 =>
            intro w' hSw
            go_split_ands
            go_simp
            try with_reducible rfl
          try simp only [List.getElem_toArray, List.getElem_cons_zero, List.getElem_cons_succ, Act.put, List.setIfInBounds_toArray, List.set_cons_zero, List.set_cons_succ]
          refine wpAnyH_ready (rs := [33]) (by kernel_rfl) (by simp) ?_
          refine AllReadyH.cons (i := 33) rfl (fun K hK => ?_) AllReadyH.nil
          go_simp
          refine hK.out _ _ ⟨by simp [*, World.cell?_setCell_other], by simp [*, World.cell?_setCell_other], by simp [*, World.cell?_setCell_other]⟩ (fun hHeld' => ?_)
          clear hHeld hK K hHeld'
          try simp only [List.getElem_toArray, List.getElem_cons_zero, List.getElem_cons_succ, Act.put, List.setIfInBounds_toArray, List.set_cons_zero, List.set_cons_succ]
          refine wpAnyH_done (by kernel_rfl) ?_ _
          go_wp2_with fail
          go_meet
          exact ⟨rfl, Lib.hid (HW.out _), Lib.hid (((Kept.refl [R] w).drewN _).setCell (by simp) _)⟩
    case rest =>
      obtain ⟨rfl, HX, HK⟩ := hcut
      have cx := (cell_of_row wc R p0 _ _ _ HX.out).trans (words_get? _ p0 (by rw [List.length_set, hr]; omega))
      rw [HG.out] at cx
      have hend : (Sha.ringNext r i).getD (i % 16) 0 = x0 + (Sha.small x1 7 18 3 + x2 + Sha.small x3 17 19 10) := by rw [HN.out, HI0.out, HG.out]
      have HE := Lib.hid hend
      clear c0 c1 c2 c3 fz hend hR
      go_wp2
      go_ret
      exact ⟨ret_int (congrArg wv HE.out).symm, by rw [HN.out]; exact HX.out, HK.out⟩
  · obtain ⟨p0, hp0, l0⟩ : ∃ p, i % 16 = p ∧ p < 16 := ⟨_, rfl, by omega⟩
    have c0 := hc p0 l0
    have m0 : (i : Int) % 16 = p0 := by omega
    have HN : Hid (Sha.ringNext r i = r) := Lib.hid (by unfold Sha.ringNext; rw [if_neg h16])
    have hlt : ¬ (16 : Int) ≤ (i : Int) := by omega
    obtain ⟨x0, e0⟩ : ∃ x, r.getD p0 0 = x := ⟨_, rfl⟩
    rw [e0] at c0
    have HE := Lib.hid (show (Sha.ringNext r i).getD (i % 16) 0 = x0 by rw [HN.out, hp0, e0])
    have HR := Lib.hid hR
    clear hc hp0 hR e0 hr
    go_enter Tryd.func61, Tryd.ntmps61
    go_wp2
    go_ret
    exact ⟨ret_int (congrArg wv HE.out).symm, by rw [HN.out]; exact HR.out, Kept.refl _ _⟩
end Go.Proofs.YtnoilogepkelaaaDoor
namespace Go.Proofs.YtnoilogepkelaaaDoor.Sha
set_option linter.unusedVariables false
set_option linter.unusedSimpArgs false

/-- A word of which k bytes have come. -/
def pw (b : List (BitVec 8)) (p : Nat) : Nat → BitVec 32
  | 0 => 0
  | k + 1 => pw b p k <<< 8 ||| (b.getD (4 * p + k) 0).setWidth 32
theorem pw_four (b : List (BitVec 8)) (p : Nat) : pw b p 4 = wordAt b p := by
  simp only [pw, wordAt, be4, Nat.add_zero]
  simp only [BitVec.shiftLeft_or_distrib, ← BitVec.shiftLeft_add]
  simp
/-- The ring of which i bytes have come. -/
def pring (b : List (BitVec 8)) (i : Nat) : List (BitVec 32) := (List.range 16).map fun p => pw b p (min 4 (i - 4 * p))
theorem pring_length (b : List (BitVec 8)) (i : Nat) : (pring b i).length = 16 := by simp [pring]
theorem pring_zero (b : List (BitVec 8)) : pring b 0 = List.replicate 16 0 := by
  have : ∀ p, pw b p (min 4 (0 - 4 * p)) = 0 := fun p => by rw [show min 4 (0 - 4 * p) = 0 by omega]; rfl
  simp only [pring, this, List.map_const', List.length_range]
theorem pring_all (b : List (BitVec 8)) : pring b 64 = ring b 0 := by
  simp only [pring, ring]
  apply List.map_congr_left
  intro p hp
  have := List.mem_range.1 hp
  rw [show min 4 (64 - 4 * p) = 4 by omega, pw_four]
theorem pring_getD (b : List (BitVec 8)) (i p : Nat) (h : p < 16) : (pring b i).getD p 0 = pw b p (min 4 (i - 4 * p)) := by simp [pring, List.getD, h]
theorem pring_succ (b : List (BitVec 8)) (i : Nat) (h : i < 64) : pring b (i + 1) = (pring b i).set (i / 4) ((pring b i).getD (i / 4) 0 <<< 8 ||| (b.getD i 0).setWidth 32) := by
  apply List.ext_getElem?
  intro p
  by_cases hp : p < 16
  · rw [List.getElem?_set]
    have hl : (pring b i).length = 16 := pring_length b i
    by_cases e : i / 4 = p
    · rw [if_pos e, if_pos (by omega)]
      subst e
      rw [pring_getD b i _ hp]
      simp only [pring, List.getElem?_map, List.getElem?_range hp, Option.map_some]
      rw [show min 4 (i + 1 - 4 * (i / 4)) = min 4 (i - 4 * (i / 4)) + 1 by omega, pw, show 4 * (i / 4) + min 4 (i - 4 * (i / 4)) = i by omega]
    · rw [if_neg e]
      simp only [pring, List.getElem?_map, List.getElem?_range hp, Option.map_some]
      rw [show min 4 (i + 1 - 4 * p) = min 4 (i - 4 * p) by omega]
  · rw [List.getElem?_eq_none (by rw [pring_length]; omega), List.getElem?_eq_none (by rw [List.length_set, pring_length]; omega)]
theorem rnds_succ (s : S) (ws : List (BitVec 32)) (n : Nat) : rnds s ws (n + 1) = rnd (rnds s ws n) (adds.getD n 0) (ws.getD n 0) := rfl
/-- Words of which the first i are added to. -/
def plusN (x y : List (BitVec 32)) (i : Nat) : List (BitVec 32) := (List.range x.length).map fun j => if j < i then x.getD j 0 + y.getD j 0 else x.getD j 0
theorem plusN_length (x y : List (BitVec 32)) (i : Nat) : (plusN x y i).length = x.length := by simp [plusN]
theorem plusN_getD (x y : List (BitVec 32)) (i j : Nat) (h : j < x.length) : (plusN x y i).getD j 0 = if j < i then x.getD j 0 + y.getD j 0 else x.getD j 0 := by simp [plusN, List.getD, h]
theorem ext32 {xs ys : List (BitVec 32)} (hl : xs.length = ys.length) (h : ∀ j, j < xs.length → xs.getD j 0 = ys.getD j 0) : xs = ys := by
  apply List.ext_getElem?
  intro j
  by_cases hj : j < xs.length
  · have := h j hj
    rw [List.getElem?_eq_getElem hj, List.getElem?_eq_getElem (by omega)]
    simpa [List.getD, hj, show j < ys.length by omega] using this
  · rw [List.getElem?_eq_none (by omega), List.getElem?_eq_none (by omega)]
theorem plusN_zero (x y : List (BitVec 32)) : plusN x y 0 = x := ext32 (plusN_length _ _ _) fun j hj => by
  rw [plusN_length] at hj
  rw [plusN_getD _ _ _ _ hj, if_neg (by omega)]
theorem plusN_succ (x y : List (BitVec 32)) (i : Nat) (h : i < x.length) : plusN x y (i + 1) = (plusN x y i).set i (x.getD i 0 + y.getD i 0) := by
  refine ext32 (by rw [List.length_set, plusN_length, plusN_length]) fun j hj => ?_
  rw [plusN_length] at hj
  rw [plusN_getD _ _ _ _ hj]
  have hs : ((plusN x y i).set i (x.getD i 0 + y.getD i 0)).getD j 0 = if i = j then x.getD i 0 + y.getD i 0 else (plusN x y i).getD j 0 := by
    simp only [List.getD, List.getElem?_set]
    by_cases e : i = j
    · rw [if_pos e, if_pos e, if_pos (by rw [plusN_length]; omega)]; rfl
    · rw [if_neg e, if_neg e]
  rw [hs]
  by_cases e : i = j
  · subst e; rw [if_pos (by omega), if_pos rfl]
  · rw [if_neg e, plusN_getD _ _ _ _ hj]
    by_cases h1 : j < i
    · rw [if_pos h1, if_pos (by omega)]
    · rw [if_neg h1, if_neg (by omega)]
theorem plusN_all (x y : List (BitVec 32)) (h : x.length = y.length) : plusN x y x.length = plus x y := by
  refine ext32 (by rw [plusN_length]; simp [plus, h]) fun j hj => ?_
  rw [plusN_length] at hj
  rw [plusN_getD _ _ _ _ hj, if_pos hj]
  simp [plus, List.getD, List.getElem?_zipWith, hj, show j < y.length by omega]
theorem adds_length : adds.length = 64 := rfl
end Go.Proofs.YtnoilogepkelaaaDoor.Sha
namespace Go.Proofs.YtnoilogepkelaaaDoor
set_option linter.unusedVariables false
set_option linter.unusedSimpArgs false
open Go Go.RowKit
attribute [local go_sem] u32_add u32_sub u32_xor u32_or u32_and' u32_shl u32_shr

/-- The package's two tables, as the text lays them. -/
structure Glob (w : World) : Prop where
  starts : ∃ t fr, w.heap[0]? = some (.cells (words Sha.starts) t fr)
  adds : ∃ t fr, w.heap[1]? = some (.cells (words Sha.adds) t fr)
theorem Glob.size {w : World} (h : Glob w) : 2 ≤ w.heap.size := by obtain ⟨t, fr, h1⟩ := h.adds; have := (Array.getElem?_eq_some_iff.1 h1).1; omega
theorem Glob.below {w w' : World} {B : Nat} (h : Glob w) (hb : Below B w w') (hB : 2 ≤ B) : Glob w' := by
  obtain ⟨⟨t, fr, h0⟩, t', fr', h1⟩ := h
  exact ⟨⟨t, fr, (hb.block 0 (by omega)).trans h0⟩, t', fr', (hb.block 1 (by omega)).trans h1⟩

set_option maxRecDepth 100000 in
theorem start_any (w : World) (hG : Glob w) : Calls Tryd.prog 25 #[] w fun e w' => e = .returned (.agg (words Sha.starts)) ∧ Below w.heap.size w w' := by
  obtain ⟨t, fr, h0⟩ := hG.starts
  have HI := Lib.hid (show (Tryd.prog.info? 27).map (·.size) = some (words Sha.starts).size by kernel_rfl)
  have hsz := hG.size
  have H0 := Lib.hid ((heapA_old w (.cells #[.int .u32 0, .int .u32 0, .int .u32 0, .int .u32 0, .int .u32 0, .int .u32 0, .int .u32 0, .int .u32 0] 27) 0 (by omega)).trans h0)
  clear h0
  go_enter Tryd.func25, Tryd.ntmps25
  go_wp2_with (first
    | (refine wpList_load_row rfl 27 (.global 0) rfl 0 rfl _ _ _ _ H0.out Tryd.underlying27 rfl HI.out ?_)
    | (refine wpList_store_row rfl 27 (.tmp 0) (.tmp 1) rfl _ _ rfl rfl _ _ (heap_alloc_new _ _) HI.out rfl (words_one _) ?_; rw [World.setRow_alloc_new]))
  exact bodyPost_ret (results_cell_row Tryd.results25 _ _ w.heap.size _ _ _ _ rfl (heap_alloc_new _ _) Tryd.underlying27 rfl HI.out) rfl ⟨rfl, (Below.refl _ w).alloc (Nat.le_refl _) _⟩

/-- What Mix holds between its rounds: the words, the result's cells, the ring. -/
structure MixI (w : World) (O R : Nat) (ws r : List (BitVec 32)) (wr : World) : Prop where
  lt : w.heap.size < O ∧ O < R
  w_ : wr.heap[w.heap.size]? = some (.cells (words ws) 27 (0, 0))
  out : wr.heap[O]? = some (.cells (words (List.replicate 8 0)) 27 (0, 0))
  ring : wr.heap[R]? = some (.cells (words r) 83 (0, 0))
  below : Below w.heap.size w wr
theorem MixI.drewN {w : World} {O R : Nat} {ws r : List (BitVec 32)} {wr : World} (h : MixI w O R ws r wr) (n : Nat) : MixI w O R ws r (wr.drewN n) := ⟨h.lt, h.w_, h.out, h.ring, Below.drewN h.below n⟩
theorem MixI.setR {w : World} {O R : Nat} {ws r : List (BitVec 32)} {wr : World} (h : MixI w O R ws r wr) (p : Nat) (x : BitVec 32) : MixI w O R ws (r.set p x) (wr.setCell ⟨R, p, none⟩ (.int .u32 (wv x))) := by
  have hl := h.lt
  refine ⟨h.lt, (heap_setCell_other _ _ _ _ (by simp; omega)).trans h.w_, (heap_setCell_other _ _ _ _ (by simp; omega)).trans h.out, ?_, h.below.setCell (p := ⟨R, p, none⟩) (by simp; omega) _⟩
  have h2 := heap_setCell_same wr R p _ _ (.int .u32 (wv x)) h.ring
  rwa [words_set] at h2
theorem MixI.setW {w : World} {O R : Nat} {ws r : List (BitVec 32)} {wr : World} (h : MixI w O R ws r wr) (p : Nat) (x : BitVec 32) : MixI w O R (ws.set p x) r (wr.setCell ⟨w.heap.size, p, none⟩ (.int .u32 (wv x))) := by
  have hl := h.lt
  refine ⟨h.lt, ?_, (heap_setCell_other _ _ _ _ (by simp; omega)).trans h.out, (heap_setCell_other _ _ _ _ (by simp; omega)).trans h.ring, h.below.setCell (p := ⟨w.heap.size, p, none⟩) (Nat.le_refl _) _⟩
  have h2 := heap_setCell_same wr w.heap.size p _ _ (.int .u32 (wv x)) h.w_
  rwa [words_set] at h2
theorem MixI.kept {w : World} {O R : Nat} {ws r r' : List (BitVec 32)} {wr w' : World} (h : MixI w O R ws r wr) (hk : Kept [R] wr w') (hr : w'.heap[R]? = some (.cells (words r') 83 (0, 0))) : MixI w O R ws r' w' := by
  have h1 := (Array.getElem?_eq_some_iff.1 h.ring).1
  have hl := h.lt
  exact ⟨h.lt, (hk.block _ (by omega) (by simp; omega)).trans h.w_, (hk.block _ (by omega) (by simp; omega)).trans h.out, hr, h.below.trans (hk.toBelow (by simp; omega) h.below.size)⟩

set_option maxRecDepth 100000 in
set_option maxHeartbeats 4000000 in
theorem mix_any (ws : List (BitVec 32)) (b : List (BitVec 8)) (hw : ws.length = 8) (hb : b.length = 64) (w : World) (hG : Glob w) :
    Calls Tryd.prog 26 #[.agg (words ws), .agg (bytes b)] w fun e w' => e = .returned (.agg (words (Sha.mix ws b))) ∧ Below w.heap.size w w' := by
  have HIW := Lib.hid (fun (xs : List (BitVec 32)) (h : xs.length = 8) => (show (Tryd.prog.info? 27).map (·.size) = some (words xs).size by rw [words_size, h]; kernel_rfl))
  have HIB := Lib.hid (show (Tryd.prog.info? 29).map (·.size) = some (bytes b).size by rw [bytes_size, hb]; kernel_rfl)
  have hix := fun (i : Nat) (hi : i < 64) => run_index_row (P := Tryd.prog) (T := 29) (E := 5) Tryd.underlying29 Tryd.underlying5 rfl (by kernel_rfl) (bytes b) (by rw [bytes_size]; exact hb) (i : Int) (by omega) (by omega)
  have HIX := Lib.hid hix
  have HG := Lib.hid hG
  have HW := Lib.hid hw
  have HB := Lib.hid hb
  obtain ⟨wb, hwb⟩ : ∃ wb, words ws = wb := ⟨_, rfl⟩
  obtain ⟨bb, hbb⟩ : ∃ bb, bytes b = bb := ⟨_, rfl⟩
  rw [hbb] at HIX HIB
  rw [hwb, hbb]
  have HWB := Lib.hid (And.intro hwb hbb)
  clear hix hG hw hb hwb hbb
  go_enter Tryd.func26, Tryd.ntmps26
  go_upto_region 2 with fail
  obtain ⟨Y, hY, hBY, hYs, hY0, hY1, hY2⟩ := alloc3 w (.cells wb 27) (.cells bb 29) (.cells (words (List.replicate 8 0)) 27)
  rw [show ((w.alloc (.cells wb 27)).alloc (.cells bb 29)).alloc (.cells #[.int .u32 0, .int .u32 0, .int .u32 0, .int .u32 0, .int .u32 0, .int .u32 0, .int .u32 0, .int .u32 0] 27) = Y from hY]
  obtain ⟨X, hX, hBX, hXs, hX0⟩ := alloc1 Y (.cells (words (List.replicate 16 0)) 83)
  rw [show Y.alloc (.cells #[.int .u32 0, .int .u32 0, .int .u32 0, .int .u32 0, .int .u32 0, .int .u32 0, .int .u32 0, .int .u32 0, .int .u32 0, .int .u32 0, .int .u32 0, .int .u32 0, .int .u32 0, .int .u32 0, .int .u32 0, .int .u32 0] 83) = X from hX]
  have hbk : X.heap[w.heap.size + 1]? = some (.cells bb 29 (0, 0)) := (hBX.block _ (by omega)).trans hY1
  have hI : MixI w (w.heap.size + 1 + 1) (w.heap.size + 1 + 1 + 1) ws (Sha.pring b 0) X := by
    refine ⟨⟨by omega, by omega⟩, ?_, (hBX.block _ (by omega)).trans hY2, ?_, hBY.trans (hBX.mono (by omega))⟩
    · rw [HWB.out.1]; exact (hBX.block _ (by omega)).trans hY0
    · rw [Sha.pring_zero]; rw [show w.heap.size + 1 + 1 + 1 = Y.heap.size by omega]; exact hX0
  have HI := Lib.hid hI
  have HBK := Lib.hid hbk
  clear hI hbk hY hBY hYs hY0 hY1 hY2 hX hBX hXs hX0
  generalize w.heap.size + 1 + 1 + 1 = R at *
  generalize w.heap.size + 1 + 1 = O at *
  go_upto_region 3 with (refine wpList_load_row rfl 29 (.tmp 3) rfl (w.heap.size + 1) rfl _ _ _ _ HBK.out Tryd.underlying29 rfl HIB.out ?_)
  clear HBK HIB
  go_loopw [23] (fun s wr => ∃ i : Nat, i ≤ 64 ∧ s = .int .i64 i ∧ Hid (MixI w O R ws (Sha.pring b i) wr)) (fun s _ => 64 - (intOf s).toNat)
  case atStart => exact ⟨0, by omega, rfl, HI⟩
  case round =>
    clear HI
    obtain ⟨i, hi, rfl, HI⟩ := hrel
    by_cases hlt : i < 64
    · have hx := fun (W : World) => HIX.out i hlt W
      rw [← HWB.out.2, Int.toNat_natCast, Array.getD_eq_getD_getElem?, bytes_get? b i (by rw [HB.out]; exact hlt), Option.getD_some, HWB.out.2] at hx
      have hn := HI.out.setR (i / 4) ((Sha.pring b i).getD (i / 4) 0 <<< 8 ||| (b.getD i 0).setWidth 32)
      rw [← Sha.pring_succ b i hlt] at hn
      have cr := (cell_of_row wr R (i / 4) _ _ _ HI.out.ring).trans (words_get? _ (i / 4) (by rw [Sha.pring_length]; omega))
      have fr := frozen_of_row wr R (i / 4) _ _ HI.out.ring
      generalize (Sha.pring b i).getD (i / 4) 0 = x at cr hn
      generalize b.getD i 0 = y at hx hn
      have HN := Lib.hid hn
      obtain ⟨q, hq, hq16⟩ : ∃ q : Nat, i / 4 = q ∧ q < 16 := ⟨_, rfl, by omega⟩
      have hqi : (i : Int) / 4 = q := by omega
      rw [hq] at cr fr HN
      have hy : bv y = wv (y.setWidth 32) := by rw [← u8_to_u32, wrap_u32_mod]; have := bv_nonneg y; have := bv_lt y; omega
      have hs8 : wv x * (256 : Int) % (4294967296 : Int) = wv (x <<< 8) := by rw [← wrap_u32_mod]; exact u32_shl8 x
      have hyw : wv (y.setWidth 32) % (4294967296 : Int) = wv (y.setWidth 32) := Int.emod_eq_of_lt (wv_nonneg _) (wv_lt _)
      clear hn hq
      go_wp2
      exact ⟨⟨i + 1, by omega, by go_num, HN⟩, by simp [intOf]; omega⟩
    · obtain rfl : i = 64 := by omega
      rw [Sha.pring_all] at HI
      have hc : ∀ p, p < 8 → wr.cell? ⟨w.heap.size, p, none⟩ = some (.int .u32 (wv (ws.getD p 0))) := fun p hp => (cell_of_row wr w.heap.size p _ _ _ HI.out.w_).trans (words_get? ws p (by rw [HW.out]; exact hp))
      have c0 := hc 0 (by omega)
      have c1 := hc 1 (by omega)
      have c2 := hc 2 (by omega)
      have c3 := hc 3 (by omega)
      have c4 := hc 4 (by omega)
      have c5 := hc 5 (by omega)
      have c6 := hc 6 (by omega)
      have c7 := hc 7 (by omega)
      have HS0 := Lib.hid (show Sha.S.of ws = ⟨ws.getD 0 0, ws.getD 1 0, ws.getD 2 0, ws.getD 3 0, ws.getD 4 0, ws.getD 5 0, ws.getD 6 0, ws.getD 7 0⟩ from rfl)
      obtain ⟨sa, sb, sc, sd, se, sf, sg, sh, hsv⟩ : ∃ sa sb sc sd se sf sg sh, Sha.S.of ws = ⟨sa, sb, sc, sd, se, sf, sg, sh⟩ := ⟨_, _, _, _, _, _, _, _, rfl⟩
      have hsv' := HS0.out.symm.trans hsv
      simp only [Sha.S.mk.injEq] at hsv'
      obtain ⟨g0, g1, g2, g3, g4, g5, g6, g7⟩ := hsv'
      rw [g0] at c0
      rw [g1] at c1
      rw [g2] at c2
      rw [g3] at c3
      rw [g4] at c4
      rw [g5] at c5
      rw [g6] at c6
      rw [g7] at c7
      have HSV := Lib.hid hsv
      clear hc hsv HS0 g0 g1 g2 g3 g4 g5 g6 g7
      go_upto_region 7 with fail
      go_cut [8, 9, 10, 11, 12, 13, 14, 15] (fun s8 s9 s10 s11 s12 s13 s14 s15 wx => s8 = .int .u32 (wv sa) ∧ s9 = .int .u32 (wv sb) ∧ s10 = .int .u32 (wv sc) ∧ s11 = .int .u32 (wv sd) ∧ s12 = .int .u32 (wv se) ∧ s13 = .int .u32 (wv sf) ∧ s14 = .int .u32 (wv sg) ∧ s15 = .int .u32 (wv sh) ∧ ∃ m, wx = wr.drewN m)
      case first =>
        go_quiet (fail)
        go_wp2_with fail
        go_meet
        case rel => exact ⟨rfl, rfl, rfl, rfl, rfl, rfl, rfl, rfl, _, rfl⟩
      case rest =>
        obtain ⟨rfl, rfl, rfl, rfl, rfl, rfl, rfl, rfl, m, rfl⟩ := hcut
        have HI2 := Lib.hid (HI.out.drewN m)
        clear HI c0 c1 c2 c3 c4 c5 c6 c7
        obtain ⟨tA, frA, hA0⟩ := HG.out.adds
        have hz2 := HG.out.size
        have HA := Lib.hid ((HI2.out.below.block 1 (by omega)).trans hA0)
        have HIA := Lib.hid (show (Tryd.prog.info? 84).map (·.size) = some (words Sha.adds).size by kernel_rfl)
        have hixa := fun (i : Nat) (hi : i < 64) => run_index_row (P := Tryd.prog) (T := 84) (E := 25) Tryd.underlying84 Tryd.underlying25 rfl (by kernel_rfl) (words Sha.adds) rfl (i : Int) (by omega) (by omega)
        have HIXA := Lib.hid hixa
        have HAL := Lib.hid (show (words Sha.adds).size = 64 from rfl)
        obtain ⟨aa, haa⟩ : ∃ aa, words Sha.adds = aa := ⟨_, rfl⟩
        rw [haa] at HA HIA HIXA
        have HAA := Lib.hid haa
        have HS1 := Lib.hid (show Sha.rnds (Sha.S.of ws) (Sha.sched b 64) 0 = ⟨sa, sb, sc, sd, se, sf, sg, sh⟩ from HSV.out)
        clear hixa hA0 haa
        go_upto_region 9 with (refine wpList_load_row rfl 84 (.global 1) rfl 1 rfl _ _ _ _ HA.out Tryd.underlying84 rfl HIA.out ?_)
        clear HA HIA
        go_loopw [8, 9, 10, 11, 12, 13, 14, 15, 56] (fun s8 s9 s10 s11 s12 s13 s14 s15 s56 wq => ∃ (i : Nat) (S : Sha.S), i ≤ 64 ∧ s56 = .int .i64 i ∧ s8 = .int .u32 (wv S.a) ∧ s9 = .int .u32 (wv S.b) ∧ s10 = .int .u32 (wv S.c) ∧ s11 = .int .u32 (wv S.d) ∧ s12 = .int .u32 (wv S.e) ∧ s13 = .int .u32 (wv S.f) ∧ s14 = .int .u32 (wv S.g) ∧ s15 = .int .u32 (wv S.h) ∧ Hid (Sha.rnds (Sha.S.of ws) (Sha.sched b 64) i = S) ∧ Hid (MixI w O R ws (Sha.ring b i) wq)) (fun _ _ _ _ _ _ _ _ s56 _ => 64 - (intOf s56).toNat)
        case atStart => exact ⟨0, ⟨sa, sb, sc, sd, se, sf, sg, sh⟩, by omega, rfl, rfl, rfl, rfl, rfl, rfl, rfl, rfl, rfl, HS1, HI2⟩
        case round =>
          clear HI2 HS1 HSV
          obtain ⟨i, ⟨a, b', c, d, e, f, g, h⟩, hi, rfl, rfl, rfl, rfl, rfl, rfl, rfl, rfl, rfl, HS, HI⟩ := hrel
          dsimp only
          by_cases hlt : i < 64
          · have hx := fun (W : World) => HIXA.out i hlt W
            rw [← HAA.out, Int.toNat_natCast, Array.getD_eq_getD_getElem?, words_get? Sha.adds i hlt, Option.getD_some, HAA.out] at hx
            have hnx := next_any (Sha.ring b i) (Sha.ring_length b i) R i hlt _ wr HI.out.ring
            have hw := Sha.ring_word b i hlt
            have hsc := Sha.rnds_succ (Sha.S.of ws) (Sha.sched b 64) i
            rw [show Sha.ringNext (Sha.ring b i) i = Sha.ring b (i + 1) from rfl, hw] at hnx
            rw [HS.out] at hsc
            generalize Sha.adds.getD i 0 = k at hx hsc
            generalize (Sha.sched b 64).getD i 0 = wd at hnx hsc
            have HSC := Lib.hid hsc
            have HNX := Lib.hid hnx
            have HLE := Lib.hid (fun w => (show Calls Tryd.prog 60 #[.int .u32 (wv e), .int .i64 6, .int .i64 11, .int .i64 25] w fun e' w' => e' = .returned (.int .u32 (wv (Sha.large e 6 11 25))) ∧ w = w' from large_any e 6 11 25 (by omega) (by omega) (by omega) (by omega) (by omega) (by omega) w))
            have HLA := Lib.hid (fun w => (show Calls Tryd.prog 60 #[.int .u32 (wv a), .int .i64 2, .int .i64 13, .int .i64 22] w fun e' w' => e' = .returned (.int .u32 (wv (Sha.large a 2 13 22))) ∧ w = w' from large_any a 2 13 22 (by omega) (by omega) (by omega) (by omega) (by omega) (by omega) w))
            clear hw hsc hnx
            go_wp2_with (first
              | (go_at_call 60; with_reducible refine Calls.mono (HLE.out _) ?_; rintro e' w' ⟨rfl, rfl⟩)
              | (go_at_call 60; with_reducible refine Calls.mono (HLA.out _) ?_; rintro e' w' ⟨rfl, rfl⟩)
              | (go_at_call 61; refine HNX.out.mono ?_; rintro e' w2 ⟨rfl, hr, hk⟩; have HI2 := Lib.hid (HI.out.kept hk hr); clear hr hk))
            exact ⟨⟨i + 1, _, by omega, by go_num, rfl, rfl, rfl, rfl, rfl, rfl, rfl, rfl, HSC, HI2⟩, by simp [intOf]; omega⟩
          · obtain rfl : i = 64 := by omega
            have HMX := Lib.hid (show Sha.mix ws b = Sha.plus ws [a, b', c, d, e, f, g, h] by unfold Sha.mix; rw [HS.out]; rfl)
            obtain ⟨xs, hxs, hxl⟩ : ∃ xs : List (BitVec 32), [a, b', c, d, e, f, g, h] = xs ∧ xs.length = 8 := ⟨_, rfl, rfl⟩
            have hag : #[.int .u32 (wv a), .int .u32 (wv b'), .int .u32 (wv c), .int .u32 (wv d), .int .u32 (wv e), .int .u32 (wv f), .int .u32 (wv g), .int .u32 (wv h)] = words xs := by rw [← hxs]; rfl
            rw [hxs] at HMX
            have hixw := fun (i : Nat) (hi : i < 8) => run_index_row (P := Tryd.prog) (T := 26) (E := 25) Tryd.underlying26 Tryd.underlying25 rfl (by kernel_rfl) (words xs) (by rw [words_size]; exact hxl) (i : Int) (by omega) (by omega)
            have HIXW := Lib.hid hixw
            have HAG := Lib.hid hag
            have HXL := Lib.hid hxl
            have HI0 := Lib.hid (show MixI w O R (Sha.plusN ws xs 0) (Sha.ring b 64) wr by rw [Sha.plusN_zero]; exact HI.out)
            clear hxs hag hixw hxl HI HS HIXA HAL HAA HIX
            go_upto_region 16 with fail
            rw [HAG.out]
            obtain ⟨xa, hxa⟩ : ∃ xa, words xs = xa := ⟨_, rfl⟩
            rw [hxa] at HIXW ⊢
            have HXA := Lib.hid hxa
            clear hxa HAG
            go_loopw [111] (fun s wq => ∃ i : Nat, i ≤ 8 ∧ s = .int .i64 i ∧ Hid (MixI w O R (Sha.plusN ws xs i) (Sha.ring b 64) wq)) (fun s _ => 8 - (intOf s).toNat)
            case atStart => exact ⟨0, by omega, rfl, HI0⟩
            case round =>
              clear HI0
              obtain ⟨i, hi, rfl, HI⟩ := hrel
              by_cases hlt : i < 8
              · have hx := fun (W : World) => HIXW.out i hlt W
                rw [← HXA.out, Int.toNat_natCast, Array.getD_eq_getD_getElem?, words_get? xs i (by rw [HXL.out]; exact hlt), Option.getD_some, HXA.out] at hx
                have cw := (cell_of_row wr w.heap.size i _ _ _ HI.out.w_).trans (words_get? _ i (by rw [Sha.plusN_length, HW.out]; exact hlt))
                rw [Sha.plusN_getD _ _ _ _ (by rw [HW.out]; exact hlt), if_neg (by omega)] at cw
                have fw := frozen_of_row wr w.heap.size i _ _ HI.out.w_
                have hn := HI.out.setW i (ws.getD i 0 + xs.getD i 0)
                rw [← Sha.plusN_succ _ _ _ (by rw [HW.out]; exact hlt)] at hn
                have HN := Lib.hid hn
                clear hn
                generalize ws.getD i 0 = x at cw HN
                generalize xs.getD i 0 = y at hx HN
                go_wp2
                exact ⟨⟨i + 1, by omega, by go_num, HN⟩, by simp [intOf]; omega⟩
              · obtain rfl : i = 8 := by omega
                have hp := Sha.plusN_all ws xs (by rw [HW.out, HXL.out])
                rw [HW.out, ← HMX.out] at hp
                rw [hp] at HI
                have hml := Sha.mix_length ws b HW.out
                have HIM := Lib.hid (HIW.out _ hml)
                have HML := Lib.hid hml
                have HOX := Lib.hid (show (wr.setRow O (words (Sha.mix ws b))).heap[O]? = some (.cells (words (Sha.mix ws b)) 27 (0, 0)) from setRow_heap _ _ _ _ _ _ HI.out.out)
                have hlO := HI.out.lt
                have HBX := Lib.hid (HI.out.below.trans (((Kept.refl [O] wr).setRow (show O ∈ [O] by simp) (words (Sha.mix ws b))).toBelow (B := w.heap.size) (by simp; omega) HI.out.below.size))
                clear hp hml
                generalize hmx : Sha.mix ws b = mx at *
                have HQ := Lib.hid hmx
                clear hmx
                go_wp2_with (first
                  | (refine wpList_load_row rfl 27 (.tmp 2) rfl w.heap.size rfl _ _ _ _ HI.out.w_ Tryd.underlying27 rfl HIM.out ?_)
                  | (refine wpList_store_row rfl 27 (.tmp 4) (.tmp 122) rfl O _ rfl rfl _ _ HI.out.out HIM.out (by rw [words_size, words_size, HML.out]; rfl) (words_one _) ?_))
                exact bodyPost_ret (results_cell_row Tryd.results26 _ _ O _ _ _ _ rfl HOX.out Tryd.underlying27 rfl HIM.out) rfl ⟨by rw [HQ.out], HBX.out⟩
end Go.Proofs.YtnoilogepkelaaaDoor
namespace Go.Proofs.YtnoilogepkelaaaDoor
set_option linter.unusedVariables false
set_option linter.unusedSimpArgs false
open Go Go.RowKit

/-- What stands behind n bytes, of whose last eight i have been written. -/
def Sha.bh (n i : Nat) : List (BitVec 8) := (List.range (Sha.many n + 8)).map fun j => if j = 0 then 128 else if Sha.many n + 8 - i ≤ j then BitVec.ofNat 8 (8 * n / 2 ^ (8 * (Sha.many n + 7 - j))) else 0
theorem Sha.bh_length (n i : Nat) : (Sha.bh n i).length = Sha.many n + 8 := by simp [Sha.bh]
theorem Sha.bh_getD (n i j : Nat) (h : j < Sha.many n + 8) : (Sha.bh n i).getD j 0 = if j = 0 then 128 else if Sha.many n + 8 - i ≤ j then BitVec.ofNat 8 (8 * n / 2 ^ (8 * (Sha.many n + 7 - j))) else 0 := by simp [Sha.bh, List.getD, h]
theorem Sha.ext8 {xs ys : List (BitVec 8)} (hl : xs.length = ys.length) (h : ∀ j, j < xs.length → xs.getD j 0 = ys.getD j 0) : xs = ys := by
  apply List.ext_getElem?
  intro j
  by_cases hj : j < xs.length
  · have := h j hj
    rw [List.getElem?_eq_getElem hj, List.getElem?_eq_getElem (by omega)]
    simpa [List.getD, hj, show j < ys.length by omega] using this
  · rw [List.getElem?_eq_none (by omega), List.getElem?_eq_none (by omega)]
theorem Sha.bh_zero (n : Nat) : Sha.bh n 0 = (List.replicate (Sha.many n + 8) 0).set 0 128 := by
  have hp := Sha.many_pos n
  refine Sha.ext8 (by rw [Sha.bh_length]; simp) fun j hj => ?_
  rw [Sha.bh_length] at hj
  rw [Sha.bh_getD _ _ _ hj]
  simp only [List.getD, List.getElem?_set, List.length_replicate, List.getElem?_replicate]
  by_cases h : j = 0
  · subst h; rw [if_pos rfl, if_pos rfl, if_pos (by omega)]; rfl
  · rw [if_neg h, if_neg (by omega), if_neg (by omega), if_pos hj]; rfl
theorem Sha.bh_succ (n i : Nat) (h : i < 8) : Sha.bh n (i + 1) = (Sha.bh n i).set (Sha.many n + 7 - i) (BitVec.ofNat 8 (8 * n / 2 ^ (8 * i))) := by
  have hp := Sha.many_pos n
  refine Sha.ext8 (by rw [List.length_set, Sha.bh_length, Sha.bh_length]) fun j hj => ?_
  rw [Sha.bh_length] at hj
  have hs : ((Sha.bh n i).set (Sha.many n + 7 - i) (BitVec.ofNat 8 (8 * n / 2 ^ (8 * i)))).getD j 0 = if Sha.many n + 7 - i = j then BitVec.ofNat 8 (8 * n / 2 ^ (8 * i)) else (Sha.bh n i).getD j 0 := by
    simp only [List.getD, List.getElem?_set]
    by_cases e : Sha.many n + 7 - i = j
    · rw [if_pos e, if_pos e, if_pos (by rw [Sha.bh_length]; omega)]; rfl
    · rw [if_neg e, if_neg e]
  rw [hs, Sha.bh_getD _ _ _ hj, Sha.bh_getD _ _ _ hj]
  by_cases h0 : j = 0
  · rw [if_pos h0, if_neg (by omega), if_pos h0]
  · rw [if_neg h0, if_neg h0]
    by_cases h1 : Sha.many n + 7 - i = j
    · rw [if_pos h1, if_pos (by omega), show Sha.many n + 7 - j = i by omega]
    · rw [if_neg h1]
      by_cases h2 : Sha.many n + 8 - i ≤ j
      · rw [if_pos h2, if_pos (by omega)]
      · rw [if_neg h2, if_neg (by omega)]
theorem Sha.bh_all (n : Nat) : Sha.bh n 8 = Sha.behind n := by
  have hp := Sha.many_pos n
  refine Sha.ext8 (by rw [Sha.bh_length, Sha.behind_length]) fun j hj => ?_
  rw [Sha.bh_length] at hj
  rw [Sha.bh_getD _ _ _ hj]
  unfold Sha.behind
  rw [List.cons_append]
  by_cases h0 : j = 0
  · subst h0; rfl
  · obtain ⟨t, rfl⟩ : ∃ t, j = t + 1 := ⟨j - 1, by omega⟩
    rw [if_neg h0, List.getD_cons_succ]
    simp only [List.getD]
    by_cases h2 : Sha.many n + 8 - 8 ≤ t + 1
    · rw [if_pos h2, List.getElem?_append_right (by simp; omega), List.length_replicate]
      unfold Sha.be8
      rw [List.getElem?_map, List.getElem?_range (by omega), Option.map_some, Option.getD_some, show 8 * (Sha.many n + 7 - (t + 1)) = 56 - 8 * (t - (Sha.many n - 1)) by omega]
    · rw [if_neg h2, List.getElem?_append_left (by simp; omega), List.getElem?_replicate, if_pos (by omega)]; rfl

set_option maxRecDepth 100000 in
set_option maxHeartbeats 1000000 in
theorem behind_no (n : Int) (h : n < 0 ∨ 1152921504606846976 < n) (w : World) : Calls Tryd.prog 24 #[.int .i64 n] w fun e w' => e = .returned (.slice none 0 0) ∧ w = w' := by
  rcases h with h | h
  · go_enter Tryd.func24, Tryd.ntmps24
    go_wp2
    go_ret
    exact ⟨rfl, rfl⟩
  · have h' : ¬ n < 0 := by omega
    go_enter Tryd.func24, Tryd.ntmps24
    go_wp2
    go_ret
    exact ⟨rfl, rfl⟩

set_option maxRecDepth 100000 in
set_option maxHeartbeats 4000000 in
theorem behind_any (n : Nat) (hn : n ≤ 1152921504606846976) (w : World) : Calls Tryd.prog 24 #[.int .i64 (n : Int)] w (RetB w (Sha.behind n)) := by
  have hp := Sha.many_pos n
  have hm : 64 - ((n : Int) + 8) % 64 = (Sha.many n : Int) := by unfold Sha.many; omega
  have hmk := made_bytes (Sha.many n + 8) (by omega) w
  rw [Int.natCast_add, show ((8 : Nat) : Int) = 8 from rfl] at hmk
  have H0 := Lib.hid (Sha.bh_zero n)
  have HS := Lib.hid (fun i h => Sha.bh_succ n i h)
  have HA := Lib.hid (Sha.bh_all n)
  have HL := Lib.hid (fun i => Sha.bh_length n i)
  obtain ⟨m, hmn⟩ : ∃ m, Sha.many n = m := ⟨_, rfl⟩
  rw [hmn] at hp hm hmk H0 HL HS
  have HMN := Lib.hid hmn
  obtain ⟨Z, hZ⟩ : ∃ Z, Z = bytes (List.replicate (m + 8) 0) := ⟨_, rfl⟩
  rw [← hZ] at hmk
  have HZ := Lib.hid hZ
  clear hmn hZ
  go_enter Tryd.func24, Tryd.ntmps24
  go_upto_region 5 with fail
  have ho : OwnB 5 w.heap.size (w.alloc (.cells Z 5)) (.slice (some ⟨w.heap.size, 0, none⟩) (m + 8) (m + 8)) (List.replicate (m + 8) 0) := by
    rw [HZ.out]
    have h := OwnB.made (E := 5) (base := w.heap.size) w (List.replicate (m + 8) 0) (Nat.le_refl _) (by simp; unfold maxLen; omega)
    rwa [List.length_replicate] at h
  obtain ⟨X, hX, hBX, hXs, _⟩ := alloc1 w (.cells Z 5)
  rw [hX] at ho ⊢
  have c0 := ho.get_cell 0 (by simp)
  have f0 := ho.not_frozen 0
  have ho1 := ho.set_cell 0 (by simp) 128
  rw [← H0.out, show bv 128 = 128 from rfl] at ho1
  have HO := Lib.hid ho1
  have HB := Lib.hid (hBX.setCell (p := ⟨w.heap.size, 0, none⟩) (Nat.le_refl _) (.int .u8 128))
  have c0' : X.cell? ⟨w.heap.size, 0, none⟩ = some (.int .u8 (bv ((List.replicate (m + 8) 0).getD 0 0))) := c0
  generalize (List.replicate (m + 8) (0 : BitVec 8)).getD 0 0 = z at c0'
  clear c0 ho ho1 hX hBX hXs hmk HZ H0 hm
  go_upto_region 7 with fail
  clear c0' f0
  generalize X.setCell ⟨w.heap.size, 0, none⟩ (.int .u8 128) = X at *
  go_loopw [21] (fun s wr => ∃ i : Nat, i ≤ 8 ∧ s = .int .i64 i ∧ Hid (OwnB 5 w.heap.size wr (.slice (some ⟨w.heap.size, 0, none⟩) (m + 8) (m + 8)) (Sha.bh n i)) ∧ Hid (Below w.heap.size w wr)) (fun s _ => 8 - (intOf s).toNat)
  case atStart => exact ⟨0, by omega, rfl, HO, HB⟩
  case round =>
    clear HO HB
    obtain ⟨i, hi, rfl, HO, HB⟩ := hrel
    by_cases hlt : i < 8
    · have c0 := HO.out.get_cell (m + 7 - i) (by rw [HL.out]; omega)
      unfold byteV at c0
      have f0 := HO.out.not_frozen (m + 7 - i)
      have ho1 := HO.out.set_cell (m + 7 - i) (by rw [HL.out]; omega) (BitVec.ofNat 8 (8 * n / 2 ^ (8 * i)))
      rw [← HS.out i hlt] at ho1
      have e : bv (BitVec.ofNat 8 (8 * n / 2 ^ (8 * i))) = (n : Int) * 8 / 2 ^ (8 * i) % 256 := by
        unfold bv
        rw [BitVec.toNat_ofNat, show (2 : Nat) ^ 8 = 256 from rfl, Nat.mul_comm 8 n]
        push_cast
        rfl
      rw [e] at ho1
      have HO2 := Lib.hid ho1
      have HB2 := Lib.hid (HB.out.setCell (p := ⟨w.heap.size, m + 7 - i, none⟩) (Nat.le_refl _) (.int .u8 ((n : Int) * 8 / 2 ^ (8 * i) % 256)))
      clear e
      generalize (Sha.bh n i).getD (m + 7 - i) 0 = z at c0
      clear ho1
      go_wp2
      exact ⟨⟨i + 1, by omega, by go_num, HO2, HB2⟩, by simp [intOf]; omega⟩
    · obtain rfl : i = 8 := by omega
      rw [HA.out] at HO
      go_wp2
      go_ret
      exact ⟨_, rfl, HO.out, HB.out⟩
end Go.Proofs.YtnoilogepkelaaaDoor
namespace Go.Proofs.YtnoilogepkelaaaDoor
set_option linter.unusedVariables false
set_option linter.unusedSimpArgs false
open Go Go.RowKit
attribute [local go_sem] u32_shr8 u32_shr16 u32_shr24 u32_to_u8

def Sha.tbyte (ws : List (BitVec 32)) (j : Nat) : BitVec 8 := Sha.byteOf (ws.getD (j / 4) 0) (j % 4)
theorem Sha.tbyte_at (ws : List (BitVec 32)) (k j : Nat) (h : j < 4) : Sha.tbyte ws (4 * k + j) = Sha.byteOf (ws.getD k 0) j := by
  unfold Sha.tbyte
  rw [show (4 * k + j) / 4 = k by omega, show (4 * k + j) % 4 = j by omega]
theorem Sha.told_eq (ws : List (BitVec 32)) : Sha.told ws = (List.range 32).map (Sha.tbyte ws) := rfl
theorem sbyteOf_div (x : BitVec 32) (j : Nat) : wv x / (2 ^ (24 - 8 * j) : Nat) % 256 = bv (Sha.byteOf x j) := by
  simp only [wv, bv, Sha.byteOf, BitVec.toNat_setWidth, BitVec.toNat_ushiftRight, Nat.shiftRight_eq_div_pow]
  omega

set_option maxRecDepth 100000 in
set_option maxHeartbeats 4000000 in
theorem told_any (ws : List (BitVec 32)) (hw : ws.length = 8) (w : World) : Calls Tryd.prog 64 #[.agg (words ws)] w fun e w' => e = .returned (.agg (bytes (Sha.told ws))) ∧ Below w.heap.size w w' := by
  have HIW := Lib.hid (show (Tryd.prog.info? 27).map (·.size) = some (words ws).size by rw [words_size, hw]; kernel_rfl)
  have HIH := Lib.hid (fun (xs : List (BitVec 8)) (h : xs.length = 32) => (show (Tryd.prog.info? 32).map (·.size) = some (bytes xs).size by rw [bytes_size, h]; kernel_rfl))
  have hix := fun (i : Nat) (hi : i < 8) => run_index_row (P := Tryd.prog) (T := 27) (E := 25) Tryd.underlying27 Tryd.underlying25 rfl (by kernel_rfl) (words ws) (by rw [words_size]; exact hw) (i : Int) (by omega) (by omega)
  have HIX := Lib.hid hix
  have HW := Lib.hid hw
  obtain ⟨wb, hwb⟩ : ∃ wb, words ws = wb := ⟨_, rfl⟩
  rw [hwb] at HIX HIW ⊢
  have HWB := Lib.hid hwb
  clear hix hw hwb
  go_enter Tryd.func64, Tryd.ntmps64
  go_upto_region 1 with fail
  obtain ⟨X, hX, hBX, hXs, hX0, hX1⟩ := alloc2 w (.cells wb 27) (.cells (bytes (fill (Sha.tbyte ws) 0 32 0)) 32)
  have hX' := hX
  simp only [fill, bytes, List.range_zero, List.map_nil, List.nil_append, Nat.sub_zero, List.replicate, List.map] at hX'
  rw [show (Value.int .u8 (bv 0)) = .int .u8 0 from rfl] at hX'
  rw [hX']
  have H0 := Lib.hid hX0
  have H1 := Lib.hid hX1
  have HB := Lib.hid hBX
  clear hX hX' hBX hXs hX0 hX1
  go_upto_region 2 with (refine wpList_load_row rfl 27 (.tmp 1) rfl w.heap.size rfl _ _ _ _ H0.out Tryd.underlying27 rfl HIW.out ?_)
  clear H0
  go_loopw [7] (fun s wr => ∃ k : Nat, k ≤ 8 ∧ s = .int .i64 k ∧ Hid (wr.heap[w.heap.size + 1]? = some (.cells (bytes (fill (Sha.tbyte ws) 0 32 (4 * k))) 32 (0, 0))) ∧ Hid (Below w.heap.size w wr)) (fun s _ => 8 - (intOf s).toNat)
  case atStart => exact ⟨0, by omega, rfl, H1, HB⟩
  case round =>
    clear H1 HB
    obtain ⟨k, hk, rfl, H1, HB⟩ := hrel
    by_cases hlt : k < 8
    · have hx := fun (W : World) => HIX.out k hlt W
      rw [← HWB.out, Int.toNat_natCast, Array.getD_eq_getD_getElem?, words_get? ws k (by rw [HW.out]; exact hlt), Option.getD_some, HWB.out] at hx
      have hfl := Lib.hid (fill_length (Sha.tbyte ws) 0 32 (4 * k) (by omega))
      have hO := fun j (hj : j < 4) => (cell_of_row wr (w.heap.size + 1) (4 * k + j) _ _ _ H1.out).trans (bytes_get? _ (4 * k + j) (by rw [hfl.out]; omega))
      have o0 := (cell_of_row wr (w.heap.size + 1) (4 * k) _ _ _ H1.out).trans (bytes_get? _ (4 * k) (by rw [hfl.out]; omega))
      have o1 := hO 1 (by omega)
      have o2 := hO 2 (by omega)
      have o3 := hO 3 (by omega)
      have f0 := frozen_of_row wr (w.heap.size + 1) (4 * k) _ _ H1.out
      have f1 := frozen_of_row wr (w.heap.size + 1) (4 * k + 1) _ _ H1.out
      have f2 := frozen_of_row wr (w.heap.size + 1) (4 * k + 2) _ _ H1.out
      have f3 := frozen_of_row wr (w.heap.size + 1) (4 * k + 3) _ _ H1.out
      generalize (fill (Sha.tbyte ws) 0 32 (4 * k)).getD (4 * k) 0 = z0 at o0
      generalize (fill (Sha.tbyte ws) 0 32 (4 * k)).getD (4 * k + 1) 0 = z1 at o1
      generalize (fill (Sha.tbyte ws) 0 32 (4 * k)).getD (4 * k + 2) 0 = z2 at o2
      generalize (fill (Sha.tbyte ws) 0 32 (4 * k)).getD (4 * k + 3) 0 = z3 at o3
      have HT := Lib.hid (Sha.tbyte_at ws k)
      have HF := Lib.hid (fun j (h : j < 32) => fill_set (Sha.tbyte ws) 0 32 j h)
      clear hO
      generalize ws.getD k 0 = x at hx HT
      go_wp2
      refine wp_loop_rounds 5 ?_
      iterate 5
        rw [rounds_succ]
        go_wp2
      have HS : ∀ (u : World) (j o : Nat) (v : Int), j < 4 → o = 4 * k + j → v = bv (Sha.byteOf x j) → u.heap[w.heap.size + 1]? = some (.cells (bytes (fill (Sha.tbyte ws) 0 32 (4 * k + j))) 32 (0, 0)) →
          (u.setCell ⟨w.heap.size + 1, o, none⟩ (.int .u8 v)).heap[w.heap.size + 1]? = some (.cells (bytes (fill (Sha.tbyte ws) 0 32 (4 * k + (j + 1)))) 32 (0, 0)) := by
        intro u j o v hj ho hv hu
        subst ho
        have h := heap_setCell_same u (w.heap.size + 1) (4 * k + j) _ _ (.int .u8 v) hu
        rw [hv, bytes_set, ← HT.out j hj, HF.out _ (by omega)] at h
        rw [hv, ← HT.out j hj]
        exact h
      refine ⟨⟨k + 1, by omega, by go_num, ?_, ?_⟩, by simp [intOf]; omega⟩
      · rw [show 4 * (k + 1) = 4 * k + (3 + 1) by omega]
        refine Lib.hid ?_
        refine HS _ 3 _ _ (by omega) (by omega) (by simp [Sha.byteOf]) ?_
        refine HS _ 2 _ _ (by omega) (by omega) (sbyteOf_div x 2) ?_
        refine HS _ 1 _ _ (by omega) (by omega) (sbyteOf_div x 1) ?_
        refine HS _ 0 _ _ (by omega) (by omega) (sbyteOf_div x 0) ?_
        exact H1.out
      · refine Lib.hid ?_
        repeat (first | with_reducible exact HB.out | with_reducible refine Below.setCell ?_ (by show w.heap.size ≤ w.heap.size + 1; omega) _)
    · obtain rfl : k = 8 := by omega
      rw [show 4 * 8 = 32 from rfl, fill_all, ← Sha.told_eq] at H1
      have hI := Lib.hid (HIH.out (Sha.told ws) (Sha.told_length ws))
      go_wp2_with (first
        | (refine wpList_load_row rfl 32 (.tmp 2) rfl (w.heap.size + 1) rfl _ _ _ _ H1.out Tryd.underlying32 rfl hI.out ?_)
        | (refine wpList_store_row rfl 32 (.tmp 2) (.tmp 27) rfl (w.heap.size + 1) _ rfl rfl _ _ H1.out hI.out rfl (bytes_one _) ?_; rw [setRow_self _ _ _ _ _ H1.out]))
      exact bodyPost_ret (results_cell_row Tryd.results64 _ _ (w.heap.size + 1) _ _ _ _ rfl H1.out Tryd.underlying32 rfl hI.out) rfl ⟨rfl, HB.out⟩
end Go.Proofs.YtnoilogepkelaaaDoor
namespace Go.Proofs.YtnoilogepkelaaaDoor
set_option linter.unusedVariables false
set_option linter.unusedSimpArgs false
open Go Go.RowKit Go.Shelf
attribute [local go_sem] Oper.semAt_some

theorem kept_of_grownF {B : Nat} {W W' : World} {row : Option Nat} (hg : W.grownBy W' row) (hr : ∀ r, row = some r → B ≤ r) : ∃ l : List Nat, Kept l W W' ∧ ∀ k, k ∈ l → B ≤ k :=
  ⟨row.toList, ⟨hg.os, hg.tape, hg.output, hg.size, fun k hk hl => hg.block k hk (fun e => hl (by rw [← e]; simp))⟩, fun k hk => hr k (by simpa using hk)⟩
theorem anyIn_load {F : Fence} {n : Nat} {P : Program} {ops : Array Oper} {o : Oper} {a : Act} {w : World} {K : Act → World → Prop} {Q : Exit → Act → World → Prop} {E : Prop} (hgd : o.guard = none) (ty : TypeId) (x : Operand) (ho : o.op = .load ty x)
    (p : Addr) (hx : a.eval x = .pointer (some p)) (v : Value) (hl : (loadVar ty p).run P w = .ok v w)
    (h : K (a.put o.dst v) w) : if Region.wanted o (yielded ops a.tmps) = true then Oper.wpIn F n P o a w K Q else E := by
  have hw : Region.wanted o (yielded ops a.tmps) = true := by simp [Region.wanted, hgd]
  simp only [hw, if_true]
  unfold Oper.wpIn
  refine ⟨by simp [Oper.about, ho], ?_⟩
  rw [Oper.semAt_plain F _ _ (by rw [ho]; intro c hc'; cases hc')]
  unfold execOp
  simp only [ho, hx, Instr.loadAt, Instr.sureAddr, Sem.run_bind, Sem.run_pure, Result.andThen_ok, hl]
  exact h
theorem anyIn_store {F : Fence} {n : Nat} {P : Program} {ops : Array Oper} {o : Oper} {a : Act} {w : World} {K : Act → World → Prop} {Q : Exit → Act → World → Prop} {E : Prop} (hgd : o.guard = none) (ty : TypeId) (x y : Operand) (ho : o.op = .store ty x y)
    (p : Addr) (v : Value) (w' : World) (hx : a.eval x = .pointer (some p)) (hy : a.eval y = v) (hl : (storeVar ty p v).run P w = .ok () w')
    (h : K (a.put o.dst undef) w') : if Region.wanted o (yielded ops a.tmps) = true then Oper.wpIn F n P o a w K Q else E := by
  have hw : Region.wanted o (yielded ops a.tmps) = true := by simp [Region.wanted, hgd]
  simp only [hw, if_true]
  unfold Oper.wpIn
  refine ⟨by simp [Oper.about, ho], ?_⟩
  rw [Oper.semAt_plain F _ _ (by rw [ho]; intro c hc'; cases hc')]
  unfold execOp
  simp only [ho, hx, hy, Instr.storeAt, Instr.sureAddr, Sem.run_bind, Sem.run_pure, Result.andThen_ok, hl]
  exact h

/-- Words, mixed with blocks of given numbers. -/
def Sha.mixAll (ws : List (BitVec 32)) (b : List (BitVec 8)) (ks : List Nat) : List (BitVec 32) := ks.foldl (fun w k => Sha.mix w (Sha.block b k)) ws
theorem Sha.mixAll_snoc (ws : List (BitVec 32)) (b : List (BitVec 8)) (ks : List Nat) (k : Nat) : Sha.mixAll ws b (ks ++ [k]) = Sha.mix (Sha.mixAll ws b ks) (Sha.block b k) := by simp [Sha.mixAll]
theorem Sha.mixAll_length (ws : List (BitVec 32)) (b : List (BitVec 8)) (ks : List Nat) (h : ws.length = 8) : (Sha.mixAll ws b ks).length = 8 := by
  unfold Sha.mixAll
  induction ks generalizing ws with
  | nil => exact h
  | cons k ks ih => exact ih _ (Sha.mix_length _ _ h)
theorem Sha.mixAll_range (ws : List (BitVec 32)) (b : List (BitVec 8)) (n : Nat) : Sha.mixAll ws b (List.range n) = Sha.foldN ws b n := by
  induction n with
  | zero => rfl
  | succ n ih => rw [List.range_succ, Sha.mixAll_snoc, ih, Sha.foldN]

/-- What fold holds between its rounds. -/
structure FoldI (w : World) (ws : List (BitVec 32)) (W : World) : Prop where
  w_ : W.heap[w.heap.size]? = some (.cells (words ws) 27 (0, 0))
  out : W.heap[w.heap.size + 1]? = some (.cells (words (List.replicate 8 0)) 27 (0, 0))
  below : Below w.heap.size w W
  big : w.heap.size + 4 ≤ W.heap.size

theorem FoldI.kept {w : World} {ws : List (BitVec 32)} {W W' : World} {r : List Nat} {B : Nat} (h : FoldI w ws W) (hk : Kept r W W') (hB : w.heap.size + 2 ≤ B) (hr : ∀ k, k ∈ r → B ≤ k) : FoldI w ws W' :=
  have hW := h.big
  ⟨(hk.block _ (by omega) (fun hm => by have := hr _ hm; omega)).trans h.w_, (hk.block _ (by omega) (fun hm => by have := hr _ hm; omega)).trans h.out, h.below.trans (hk.toBelow (fun k hm => by have := hr _ hm; omega) h.below.size), Nat.le_trans h.big hk.size⟩
theorem FoldI.size {w : World} {ws : List (BitVec 32)} {W : World} (h : FoldI w ws W) : w.heap.size + 4 ≤ W.heap.size := h.big
theorem FoldI.ownFrom {w : World} {n : Nat} {ws : List (BitVec 32)} {b : List (BitVec 8)} {B : Nat} (hB : w.heap.size + 2 ≤ B) : OwnFrom B (fun (pre : List (Blk n)) W => FoldI w (Sha.mixAll ws b (pre.map (·.1))) W) := by
  intro s W W' row hs hg' hr
  obtain ⟨l, hk, hl⟩ := kept_of_grownF hg' (fun r e => (hr r e).1)
  exact hs.kept hk hB hl
theorem KeepsFrom.ofKeptF {l : List Nat} {B : Nat} {W W' : World} (h : Kept l W W') (hl : ∀ k, k ∈ l → k < B) : KeepsFrom B W W' :=
  ⟨h.size, fun k o hB hk _ => (h.block k (Array.getElem?_eq_some_iff.1 hk).1 (fun hm => by have := hl k hm; omega)).trans hk⟩

set_option maxRecDepth 100000 in
set_option maxHeartbeats 4000000 in
theorem fold_any (ws : List (BitVec 32)) (hw : ws.length = 8) (b : List (BitVec 8)) (v : Value) (w : World) (hs : SlB w v b) (h0 : 0 < b.length) (hl : b.length ≤ 100000000) (hm : b.length % 64 = 0) (hG : Glob w) :
    Calls Tryd.prog 62 #[.agg (words ws), v] w fun e w' => e = .returned (.agg (words (Sha.fold ws b))) ∧ Below w.heap.size w w' := by
  obtain ⟨g, off, cap, rfl, hcap, hgl⟩ := hs.open_ b.length rfl h0
  have HS := Lib.hid hs
  have HW := Lib.hid hw
  have HG := Lib.hid hG
  have HIW := Lib.hid (fun (xs : List (BitVec 32)) (h : xs.length = 8) => (show (Tryd.prog.info? 27).map (·.size) = some (words xs).size by rw [words_size, h]; kernel_rfl))
  have HMX := Lib.hid (fun (ws : List (BitVec 32)) (bl : List (BitVec 8)) (h1 : ws.length = 8) (h2 : bl.length = 64) W hg => mix_any ws bl h1 h2 W hg)
  obtain ⟨n, hbn⟩ : ∃ n, b.length = n := ⟨_, rfl⟩
  have HBN := Lib.hid hbn
  rw [hbn] at h0 hl hm hcap HS ⊢
  obtain ⟨wb, hwb⟩ : ∃ wb, words ws = wb := ⟨_, rfl⟩
  have HWB := Lib.hid hwb
  rw [hwb]
  clear hs hw hG hbn hwb
  refine (callsIn_wide (n := 5)).1 ?_
  refine callsIn_of_wp_marks Tryd.func62 rfl trivial ?_ rfl
  simp only [Tryd.ntmps62, List.size_toArray, List.length_cons, List.length_nil, Nat.reduceAdd, Nat.reduceSub, Array.replicate_succ, Array.replicate_zero, List.push_toArray, List.append_toArray, List.nil_append, List.cons_append]
  obtain ⟨X, hX, hBX, hXs, hX0, hX1⟩ := alloc2 w (.cells wb 27) (.cells (words (List.replicate 8 0)) 27)
  have hX' : (w.alloc (.cells wb 27)).alloc (.cells #[.int .u32 0, .int .u32 0, .int .u32 0, .int .u32 0, .int .u32 0, .int .u32 0, .int .u32 0, .int .u32 0] 27) = X := hX
  have HX := Lib.hid (And.intro hBX (And.intro hXs (And.intro hX0 hX1)))
  have HX' := Lib.hid hX'
  clear hX hX' hBX hXs hX0 hX1
  gi_wp2_with (refine ⟨trivial, ?_⟩; gi_at_call 89; rw [HX'.out]; refine (callsIn_wide.2 (chunk_any _ _ _ _)).mono ?_; rintro e w2 ⟨rfl, hb, hz, hc1, hc2⟩; have HB2 := Lib.hid hb; have HC := Lib.hid (And.intro hc1 hc2); clear hb hc1 hc2)
  have hz0 := HX.out.1.size
  have hzX := HX.out.2.1
  have hI0 : FoldI w ws w2 := ⟨by rw [HWB.out]; exact (HB2.out.block _ (by omega)).trans HX.out.2.2.1, (HB2.out.block _ (by omega)).trans HX.out.2.2.2, HX.out.1.trans (HB2.out.mono hz0), by omega⟩
  have HZ := Lib.hid (show w2.heap.size = w.heap.size + 4 ∧ X.heap.size = w.heap.size + 2 from ⟨by omega, by omega⟩)
  have HI0 := Lib.hid hI0
  refine wpIn_rangeFunc_ownG rfl (by omega) (gf := 97) (lb := #[.pointer (some ⟨X.heap.size, 0, none⟩), .pointer (some ⟨X.heap.size + 1, 0, none⟩)]) rfl trivial (enters_of Tryd.func97 (by kernel_rfl) rfl)
    (chunk_stops Fence.wide _ trivial rfl (by omega) X.heap.size (X.heap.size + 1) g off n _ (.inr ⟨cap, rfl, hcap, by omega⟩) w2 (by omega) (by omega) HC.out.1 HC.out.2) keepsTwo_t (keepsTwo_b (by omega) (by omega)) (Below.refl _ _) (fun _ => rfl)
    (fun (pre : List (Blk n)) W => FoldI w (Sha.mixAll ws b (pre.map (·.1))) W)
    (fun _ _ _ => False)
    (FoldI.ownFrom (by omega))
    (fun _ _ _ _ _ hs _ _ => hs)
    hI0
    (fun x => { tmps := #[Value.agg wb, Value.slice (some { block := g, off := off }) n cap,
          Value.pointer (some { block := w.heap.size, off := 0 }), undef,
          Value.pointer (some { block := w.heap.size + 1, off := 0 }), chunkV g off n x.1,
          Value.slice (some { block := g, off := off }) n cap,
          Value.func (Fn.func 97) #[]
            #[Value.pointer (some { block := X.heap.size, off := 0 }),
              Value.pointer (some { block := X.heap.size + 1, off := 0 })],
          chunkV g off n x.1, undef, undef, undef, undef, undef, undef], defers := [] }) ?assign ?body ?done ?stop
  case assign =>
    clear hzX hz
    intro l x W K hK
    gi_wp2
    exact hK
  case body =>
    rintro l pre ⟨k, hkn⟩ W hI _
    have hk64 : 64 * k + 64 ≤ n := by omega
    have hsW := hI.size
    obtain ⟨wc, hwc⟩ : ∃ wc, Sha.mixAll ws b (pre.map (·.1)) = wc := ⟨_, rfl⟩
    have hlc : wc.length = 8 := by rw [← hwc]; exact Sha.mixAll_length _ _ _ HW.out
    have hnext : Sha.mixAll ws b ((pre ++ [(⟨k, hkn⟩ : Blk n)]).map (·.1)) = Sha.mix wc (Sha.block b k) := by rw [List.map_append, ← hwc]; exact Sha.mixAll_snoc _ _ _ _
    rw [hwc] at hI
    have hbl : (Sha.block b k).length = 64 := Sha.block_length b k (by rw [HBN.out]; exact hk64)
    have hsb := ((HS.out.below hI.below (Nat.le_refl _)).drop (64 * k) (by omega)).take 64 (by omega)
    have hra : W.drew.rangeAt g (off + 64 * k) (bytes (Sha.block b k)).toList := fun j u hj => by
      rw [bytes_toList] at hj
      have hj' : j < (Sha.block b k).length := by have := (List.getElem?_eq_some_iff.1 hj).1; rwa [bcells_length] at this
      rw [bcells_get? _ j hj'] at hj
      rw [← Option.some.inj hj]
      exact hsb.cell j hj'
    have hl2 := run_loadVar_mid (P := Tryd.prog) W.drew g (off + 64 * k) 29 (bytes (Sha.block b k)).toList _ hra Tryd.underlying29 rfl (by rw [Array.length_toList, bytes_size, hbl]; kernel_rfl)
    rw [Array.toArray_toList] at hl2
    have HL0 := Lib.hid (run_loadVar_row (P := Tryd.prog) W.drew w.heap.size 27 27 (words wc) _ _ hI.w_ Tryd.underlying27 rfl (HIW.out wc hlc))
    have hmk := HMX.out wc (Sha.block b k) hlc hbl W.drew (HG.out.below (by exact hI.below.drew) HG.out.size)
    have HMK := Lib.hid hmk
    have hml : (Sha.mix wc (Sha.block b k)).length = 8 := Sha.mix_length _ _ hlc
    have HNX := Lib.hid hnext
    have HML := Lib.hid hml
    have HI := Lib.hid hI
    have HWL := Lib.hid hlc
    generalize hbk : Sha.block b k = blk at *
    generalize hmx : Sha.mix wc blk = mx at *
    have ev : chunkV g off n k = .slice (some ⟨g, off + 64 * k, none⟩) 64 64 := by rw [chunkV, show min 64 (n - 64 * k) = 64 by omega]
    simp only [ev]
    have hat := run_arrayAt (P := Tryd.prog) W.drew 29 5 64 (some ⟨g, off + 64 * k, none⟩) 64 64 Tryd.underlying29 (Nat.le_refl _)
    have HL3 := Lib.hid hl2
    clear hl2 hnext hml hI hlc hbl hsb hra ev hbk hmx hwc hmk hzX hz
    have HSR : Hid (∀ w3 : World, Below W.heap.size W.drew w3 → (storeVar 27 ⟨w.heap.size, 0, none⟩ (.agg (words mx))).run Tryd.prog w3 = .ok () (w3.setRow w.heap.size (words mx)) ∧ KeepsFrom w2.heap.size W (w3.setRow w.heap.size (words mx)) ∧ KeepsTwo X.heap.size (X.heap.size + 1) W (w3.setRow w.heap.size (words mx)) ∧
        FoldI w (Sha.mixAll ws b ((pre ++ [(⟨k, hkn⟩ : Blk n)]).map (·.1))) (w3.setRow w.heap.size (words mx))) := by
      intro w3 hb3
      have hsW := HI.out.size
      have hz2 := HZ.out.1
      have hx2 := HZ.out.2
      have h3w := (hb3.block w.heap.size (by show w.heap.size < W.heap.size; omega)).trans HI.out.w_
      have hk : Kept [w.heap.size] W (w3.setRow w.heap.size (words mx)) := (((Kept.refl [] W).drew.trans ((Kept.ofBelow (l := []) (w := W.drew) hb3 (Nat.le_refl _)) : Kept [] W w3)).mono (by simp)).setRow (by simp) _
      refine ⟨run_storeVar_row w3 w.heap.size _ _ (words wc) (words mx) h3w (HIW.out mx HML.out) (by rw [words_size, words_size, HWL.out, HML.out]) (words_one _), KeepsFrom.ofKeptF hk (by simp; omega), ⟨hk.block _ (by omega) (by simp; omega), hk.block _ (by omega) (by simp; omega)⟩, ?_⟩
      rw [HNX.out]
      exact ⟨setRow_heap _ _ _ _ _ _ h3w, (hk.block _ (by omega) (by simp)).trans HI.out.out, HI.out.below.trans (hk.toBelow (by simp) (by omega)), Nat.le_trans HI.out.big hk.size⟩
    gi_wp2
    refine wpIn_region_any (by kernel_rfl) ?_
    change wpAnyIn _ _ _ _ _ _ _ _ _ (World.drew _)
    refine wpAnyIn_ready (rs := [0, 1]) (by kernel_rfl) (by simp) ?_
    refine AllReadyIn.cons (i := 0) rfl (fun K hK => ?_) ?_
    · refine anyIn_load rfl 27 (.tmp 2) rfl ⟨w.heap.size, 0, none⟩ rfl _ HL0.out ?_
      refine hK _ _ ?_
      clear hK K
      try simp only [List.getElem_toArray, List.getElem_cons_zero, List.getElem_cons_succ, Act.put, List.setIfInBounds_toArray, List.set_cons_zero, List.set_cons_succ]
      refine wpAnyIn_ready (rs := [1]) (by kernel_rfl) (by simp) ?_
      refine AllReadyIn.cons (i := 1) rfl (fun K hK => ?_) AllReadyIn.nil
      go_simp
      refine hK _ _ ?_
      clear hK K
      try simp only [List.getElem_toArray, List.getElem_cons_zero, List.getElem_cons_succ, Act.put, List.setIfInBounds_toArray, List.set_cons_zero, List.set_cons_succ]
      refine wpAnyIn_ready (rs := [2]) (by kernel_rfl) (by simp) ?_
      refine AllReadyIn.cons (i := 2) rfl (fun K hK => ?_) AllReadyIn.nil
      go_simp
      refine hK _ _ ?_
      clear hK K
      try simp only [List.getElem_toArray, List.getElem_cons_zero, List.getElem_cons_succ, Act.put, List.setIfInBounds_toArray, List.set_cons_zero, List.set_cons_succ]
      refine wpAnyIn_ready (rs := [3]) (by kernel_rfl) (by simp) ?_
      refine AllReadyIn.cons (i := 3) rfl (fun K hK => ?_) AllReadyIn.nil
      refine anyIn_load rfl 29 (.tmp 11) rfl ⟨g, off + 64 * k, none⟩ rfl _ HL3.out ?_
      refine hK _ _ ?_
      clear hK K
      try simp only [List.getElem_toArray, List.getElem_cons_zero, List.getElem_cons_succ, Act.put, List.setIfInBounds_toArray, List.set_cons_zero, List.set_cons_succ]
      refine wpAnyIn_ready (rs := [4]) (by kernel_rfl) (by simp) ?_
      refine AllReadyIn.cons (i := 4) rfl (fun K hK => ?_) AllReadyIn.nil
      go_simp
      refine ⟨trivial, ?_⟩
      gi_at_call 26
      refine (CallsIn.inRound l (callsIn_wide.2 HMK.out)).mono ?_
      rintro e w3 ⟨rfl, hb3⟩
      have HST := Lib.hid (HSR.out w3 hb3)
      refine hK _ _ ?_
      clear hK K
      try simp only [List.getElem_toArray, List.getElem_cons_zero, List.getElem_cons_succ, Act.put, List.setIfInBounds_toArray, List.set_cons_zero, List.set_cons_succ]
      refine wpAnyIn_ready (rs := [5]) (by kernel_rfl) (by simp) ?_
      refine AllReadyIn.cons (i := 5) rfl (fun K hK => ?_) AllReadyIn.nil
      refine anyIn_store rfl 27 (.tmp 2) (.tmp 13) rfl ⟨w.heap.size, 0, none⟩ (.agg (words mx)) _ rfl rfl HST.out.1 ?_
      refine hK _ _ ?_
      clear hK K
      try simp only [List.getElem_toArray, List.getElem_cons_zero, List.getElem_cons_succ, Act.put, List.setIfInBounds_toArray, List.set_cons_zero, List.set_cons_succ]
      refine wpAnyIn_done (by kernel_rfl) ?_ _
      gi_wp2
      exact HST.out.2
    · refine AllReadyIn.cons (i := 1) rfl (fun K hK => ?_) AllReadyIn.nil
      go_simp
      refine hK _ _ ?_
      clear hK K
      try simp only [List.getElem_toArray, List.getElem_cons_zero, List.getElem_cons_succ, Act.put, List.setIfInBounds_toArray, List.set_cons_zero, List.set_cons_succ]
      refine wpAnyIn_ready (rs := [0, 2]) (by kernel_rfl) (by simp) ?_
      refine AllReadyIn.cons (i := 0) rfl (fun K hK => ?_) ?_
      · refine anyIn_load rfl 27 (.tmp 2) rfl ⟨w.heap.size, 0, none⟩ rfl _ HL0.out ?_
        refine hK _ _ ?_
        clear hK K
        try simp only [List.getElem_toArray, List.getElem_cons_zero, List.getElem_cons_succ, Act.put, List.setIfInBounds_toArray, List.set_cons_zero, List.set_cons_succ]
        refine wpAnyIn_ready (rs := [2]) (by kernel_rfl) (by simp) ?_
        refine AllReadyIn.cons (i := 2) rfl (fun K hK => ?_) AllReadyIn.nil
        go_simp
        refine hK _ _ ?_
        clear hK K
        try simp only [List.getElem_toArray, List.getElem_cons_zero, List.getElem_cons_succ, Act.put, List.setIfInBounds_toArray, List.set_cons_zero, List.set_cons_succ]
        refine wpAnyIn_ready (rs := [3]) (by kernel_rfl) (by simp) ?_
        refine AllReadyIn.cons (i := 3) rfl (fun K hK => ?_) AllReadyIn.nil
        refine anyIn_load rfl 29 (.tmp 11) rfl ⟨g, off + 64 * k, none⟩ rfl _ HL3.out ?_
        refine hK _ _ ?_
        clear hK K
        try simp only [List.getElem_toArray, List.getElem_cons_zero, List.getElem_cons_succ, Act.put, List.setIfInBounds_toArray, List.set_cons_zero, List.set_cons_succ]
        refine wpAnyIn_ready (rs := [4]) (by kernel_rfl) (by simp) ?_
        refine AllReadyIn.cons (i := 4) rfl (fun K hK => ?_) AllReadyIn.nil
        go_simp
        refine ⟨trivial, ?_⟩
        gi_at_call 26
        refine (CallsIn.inRound l (callsIn_wide.2 HMK.out)).mono ?_
        rintro e w3 ⟨rfl, hb3⟩
        have HST := Lib.hid (HSR.out w3 hb3)
        refine hK _ _ ?_
        clear hK K
        try simp only [List.getElem_toArray, List.getElem_cons_zero, List.getElem_cons_succ, Act.put, List.setIfInBounds_toArray, List.set_cons_zero, List.set_cons_succ]
        refine wpAnyIn_ready (rs := [5]) (by kernel_rfl) (by simp) ?_
        refine AllReadyIn.cons (i := 5) rfl (fun K hK => ?_) AllReadyIn.nil
        refine anyIn_store rfl 27 (.tmp 2) (.tmp 13) rfl ⟨w.heap.size, 0, none⟩ (.agg (words mx)) _ rfl rfl HST.out.1 ?_
        refine hK _ _ ?_
        clear hK K
        try simp only [List.getElem_toArray, List.getElem_cons_zero, List.getElem_cons_succ, Act.put, List.setIfInBounds_toArray, List.set_cons_zero, List.set_cons_succ]
        refine wpAnyIn_done (by kernel_rfl) ?_ _
        gi_wp2
        exact HST.out.2
      · refine AllReadyIn.cons (i := 2) rfl (fun K hK => ?_) AllReadyIn.nil
        go_simp
        refine hK _ _ ?_
        clear hK K
        try simp only [List.getElem_toArray, List.getElem_cons_zero, List.getElem_cons_succ, Act.put, List.setIfInBounds_toArray, List.set_cons_zero, List.set_cons_succ]
        refine wpAnyIn_ready (rs := [0, 3]) (by kernel_rfl) (by simp) ?_
        refine AllReadyIn.cons (i := 0) rfl (fun K hK => ?_) ?_
        · refine anyIn_load rfl 27 (.tmp 2) rfl ⟨w.heap.size, 0, none⟩ rfl _ HL0.out ?_
          refine hK _ _ ?_
          clear hK K
          try simp only [List.getElem_toArray, List.getElem_cons_zero, List.getElem_cons_succ, Act.put, List.setIfInBounds_toArray, List.set_cons_zero, List.set_cons_succ]
          refine wpAnyIn_ready (rs := [3]) (by kernel_rfl) (by simp) ?_
          refine AllReadyIn.cons (i := 3) rfl (fun K hK => ?_) AllReadyIn.nil
          refine anyIn_load rfl 29 (.tmp 11) rfl ⟨g, off + 64 * k, none⟩ rfl _ HL3.out ?_
          refine hK _ _ ?_
          clear hK K
          try simp only [List.getElem_toArray, List.getElem_cons_zero, List.getElem_cons_succ, Act.put, List.setIfInBounds_toArray, List.set_cons_zero, List.set_cons_succ]
          refine wpAnyIn_ready (rs := [4]) (by kernel_rfl) (by simp) ?_
          refine AllReadyIn.cons (i := 4) rfl (fun K hK => ?_) AllReadyIn.nil
          go_simp
          refine ⟨trivial, ?_⟩
          gi_at_call 26
          refine (CallsIn.inRound l (callsIn_wide.2 HMK.out)).mono ?_
          rintro e w3 ⟨rfl, hb3⟩
          have HST := Lib.hid (HSR.out w3 hb3)
          refine hK _ _ ?_
          clear hK K
          try simp only [List.getElem_toArray, List.getElem_cons_zero, List.getElem_cons_succ, Act.put, List.setIfInBounds_toArray, List.set_cons_zero, List.set_cons_succ]
          refine wpAnyIn_ready (rs := [5]) (by kernel_rfl) (by simp) ?_
          refine AllReadyIn.cons (i := 5) rfl (fun K hK => ?_) AllReadyIn.nil
          refine anyIn_store rfl 27 (.tmp 2) (.tmp 13) rfl ⟨w.heap.size, 0, none⟩ (.agg (words mx)) _ rfl rfl HST.out.1 ?_
          refine hK _ _ ?_
          clear hK K
          try simp only [List.getElem_toArray, List.getElem_cons_zero, List.getElem_cons_succ, Act.put, List.setIfInBounds_toArray, List.set_cons_zero, List.set_cons_succ]
          refine wpAnyIn_done (by kernel_rfl) ?_ _
          gi_wp2
          exact HST.out.2
        · refine AllReadyIn.cons (i := 3) rfl (fun K hK => ?_) AllReadyIn.nil
          refine anyIn_load rfl 29 (.tmp 11) rfl ⟨g, off + 64 * k, none⟩ rfl _ HL3.out ?_
          refine hK _ _ ?_
          clear hK K
          try simp only [List.getElem_toArray, List.getElem_cons_zero, List.getElem_cons_succ, Act.put, List.setIfInBounds_toArray, List.set_cons_zero, List.set_cons_succ]
          refine wpAnyIn_ready (rs := [0]) (by kernel_rfl) (by simp) ?_
          refine AllReadyIn.cons (i := 0) rfl (fun K hK => ?_) AllReadyIn.nil
          refine anyIn_load rfl 27 (.tmp 2) rfl ⟨w.heap.size, 0, none⟩ rfl _ HL0.out ?_
          refine hK _ _ ?_
          clear hK K
          try simp only [List.getElem_toArray, List.getElem_cons_zero, List.getElem_cons_succ, Act.put, List.setIfInBounds_toArray, List.set_cons_zero, List.set_cons_succ]
          refine wpAnyIn_ready (rs := [4]) (by kernel_rfl) (by simp) ?_
          refine AllReadyIn.cons (i := 4) rfl (fun K hK => ?_) AllReadyIn.nil
          go_simp
          refine ⟨trivial, ?_⟩
          gi_at_call 26
          refine (CallsIn.inRound l (callsIn_wide.2 HMK.out)).mono ?_
          rintro e w3 ⟨rfl, hb3⟩
          have HST := Lib.hid (HSR.out w3 hb3)
          refine hK _ _ ?_
          clear hK K
          try simp only [List.getElem_toArray, List.getElem_cons_zero, List.getElem_cons_succ, Act.put, List.setIfInBounds_toArray, List.set_cons_zero, List.set_cons_succ]
          refine wpAnyIn_ready (rs := [5]) (by kernel_rfl) (by simp) ?_
          refine AllReadyIn.cons (i := 5) rfl (fun K hK => ?_) AllReadyIn.nil
          refine anyIn_store rfl 27 (.tmp 2) (.tmp 13) rfl ⟨w.heap.size, 0, none⟩ (.agg (words mx)) _ rfl rfl HST.out.1 ?_
          refine hK _ _ ?_
          clear hK K
          try simp only [List.getElem_toArray, List.getElem_cons_zero, List.getElem_cons_succ, Act.put, List.setIfInBounds_toArray, List.set_cons_zero, List.set_cons_succ]
          refine wpAnyIn_done (by kernel_rfl) ?_ _
          gi_wp2
          exact HST.out.2
  case done =>
    rintro D ys W hD hys hI hK
    rw [hys, show (n + 63) / 64 = n / 64 by omega, Sha.mixAll_range, show n / 64 = b.length / 64 by rw [HBN.out]] at hI
    have HI := Lib.hid (show FoldI w (Sha.fold ws b) W from hI)
    have HFL := Lib.hid (show (Sha.fold ws b).length = 8 from Sha.foldN_length _ _ _ HW.out)
    have HD := Lib.hid hD
    have HSW := Lib.hid HI.out.size
    have HIF := Lib.hid (HIW.out _ HFL.out)
    have HK2 := Lib.hid ((Kept.refl [w.heap.size + 1] W).setRow (b := w.heap.size + 1) (by simp) (words (Sha.fold ws b)))
    have hK' := hK
    clear hI hD hys
    gi_wp2_with (first
      | (refine wpListIn_load_row rfl 27 (.tmp 2) rfl w.heap.size rfl _ _ _ _ HI.out.w_ Tryd.underlying27 rfl HIF.out ?_)
      | (refine wpListIn_store_row rfl 27 (.tmp 4) (.tmp 14) rfl (w.heap.size + 1) _ rfl rfl _ _ HI.out.out HIF.out (by rw [words_size, words_size, HFL.out]; rfl) (words_one _) ?_))
    obtain ⟨W1, hW1⟩ : ∃ W1, W.setRow (w.heap.size + 1) (words (Sha.fold ws b)) = W1 := ⟨_, rfl⟩
    have h1o : W1.heap[w.heap.size + 1]? = some (.cells (words (Sha.fold ws b)) 27 (0, 0)) := by rw [← hW1]; exact setRow_heap _ _ _ _ _ _ HI.out.out
    have hD2 := HD.out
    have hz2 := HZ.out.1
    have hb1 : Below w.heap.size w W1 := by rw [← hW1]; exact HI.out.below.trans (HK2.out.toBelow (by simp) (by have := HSW.out; omega))
    have hK1 : W1.heap[D]? = some (.deferred (some [])) := by rw [← hW1]; exact (setRow_other _ _ _ _ (by omega)).trans hK
    have hs1 : w.heap.size + 4 ≤ W1.heap.size := by rw [← hW1, setRow_size]; exact HSW.out
    rw [hW1]
    refine ⟨by simp, .inl ⟨_, _, rfl, run_takeDeferred hK1, ?_⟩⟩
    obtain ⟨l, hkp, hl⟩ := kept_of_grownF (grownBy_putObj' W1 D (.deferred none)) (B := w2.heap.size) (fun r e => by cases e; exact HD.out)
    have h2o := (hkp.block (w.heap.size + 1) (by omega) (fun hm => by have := hl _ hm; omega)).trans h1o
    have hb2 := hb1.trans (hkp.toBelow (fun k hm => by have := hl _ hm; omega) (by omega))
    exact ⟨_, results_cell_row Tryd.results62 _ _ (w.heap.size + 1) _ _ _ _ rfl h2o Tryd.underlying27 rfl HIF.out, rfl, hb2⟩
  case stop =>
    rintro D c pre W _ _ h _
    exact h.elim
end Go.Proofs.YtnoilogepkelaaaDoor
namespace Go.Proofs.YtnoilogepkelaaaDoor
set_option linter.unusedVariables false
set_option linter.unusedSimpArgs false
open Go Go.RowKit
theorem any_store_at {P : Program} {ops : Array Oper} {o : Oper} {a : Act} {w : World} {K : Act → World → Prop} {Q : Exit → Act → World → Prop} {E : Prop} (hgd : o.guard = none) (ty : TypeId) (x y : Operand) (ho : o.op = .store ty x y)
    (p : Addr) (v : Value) (w' : World) (hx : a.eval x = .pointer (some p)) (hy : a.eval y = v) (hl : (storeVar ty p v).run P w = .ok () w')
    (h : K (a.put o.dst undef) w') : if Region.wanted o (yielded ops a.tmps) = true then Oper.wp P o a w K Q else E := by
  have hw : Region.wanted o (yielded ops a.tmps) = true := by simp [Region.wanted, hgd]
  rw [if_pos hw]
  unfold Oper.wp execOp
  simp only [ho, hx, hy, Instr.storeAt, Instr.sureAddr, Sem.run_bind, Sem.run_pure, Result.andThen_ok, hl]
  exact h

set_option maxRecDepth 100000 in
set_option maxHeartbeats 4000000 in
theorem sum_any (b : List (BitVec 8)) (v : Value) (w : World) (hs : SlB w v b) (hl : b.length ≤ 50000000) (hG : Glob w) :
    Calls Tryd.prog 27 #[v] w fun e w' => e = .returned (.agg (bytes (Sha.sum b))) ∧ Below w.heap.size w w' := by
  obtain ⟨a, cap, rfl⟩ := hs.len
  have hbl := Sha.behind_length b.length
  have hmp := Sha.many_pos b.length
  have hsz := hG.size
  have HBH := Lib.hid (fun W => behind_any b.length (by omega) W)
  have HLB := Lib.hid (show b.length + (Sha.behind b.length).length ≤ 500000000 by omega)
  have HFO := Lib.hid (fun v5 w5 h5 hg => fold_any Sha.starts rfl (b ++ Sha.behind b.length) v5 w5 h5 (by rw [List.length_append]; omega) (by rw [List.length_append]; omega) (by rw [List.length_append]; exact Sha.behind_whole _) hg)
  have HTO := Lib.hid (fun W => told_any (Sha.fold Sha.starts (b ++ Sha.behind b.length)) (Sha.foldN_length _ _ _ rfl) W)
  have HIT := Lib.hid (show (Tryd.prog.info? 27).map (·.size) = some (words Sha.starts).toList.length by kernel_rfl)
  have HIH := Lib.hid (fun (xs : List (BitVec 8)) (h : xs.length = 32) => (show (Tryd.prog.info? 32).map (·.size) = some (bytes xs).size by rw [bytes_size, h]; kernel_rfl))
  obtain ⟨X, hX, hBX, hXs, hX0⟩ := alloc1 w (.cells (bytes (List.replicate 32 0)) 32)
  have hX' : w.alloc (.cells #[.int .u8 0, .int .u8 0, .int .u8 0, .int .u8 0, .int .u8 0, .int .u8 0, .int .u8 0, .int .u8 0, .int .u8 0, .int .u8 0, .int .u8 0, .int .u8 0, .int .u8 0, .int .u8 0, .int .u8 0, .int .u8 0, .int .u8 0, .int .u8 0, .int .u8 0, .int .u8 0, .int .u8 0, .int .u8 0, .int .u8 0, .int .u8 0, .int .u8 0, .int .u8 0, .int .u8 0, .int .u8 0, .int .u8 0, .int .u8 0, .int .u8 0, .int .u8 0] 32) = X := hX
  obtain ⟨ts, frs, hst⟩ := (hG.below hBX (by omega)).starts
  have HRN := Lib.hid (fun W (hW : Below X.heap.size X W) => rng_below (rng_of_row X 0 _ _ _ hst) hW (by omega))
  have HGX := Lib.hid (fun W (hW : Below X.heap.size X W) => (hG.below hBX (by omega)).below hW (by omega))
  have HSV := Lib.hid (fun W (hW : Below X.heap.size X W) => (hs.below hBX (Nat.le_refl _)).below hW (Nat.le_refl _))
  have HOU := Lib.hid (fun W (hW : Below X.heap.size X W) => (show (storeVar 32 ⟨w.heap.size, 0, none⟩ (.agg (bytes (Sha.sum b)))).run Tryd.prog W = .ok () (W.setRow w.heap.size (bytes (Sha.sum b))) ∧
      (W.setRow w.heap.size (bytes (Sha.sum b))).rangeAt 0 0 (words Sha.starts).toList ∧ Below w.heap.size w (W.setRow w.heap.size (bytes (Sha.sum b))) ∧ (W.setRow w.heap.size (bytes (Sha.sum b))).heap[w.heap.size]? = some (.cells (bytes (Sha.sum b)) 32 (0, 0)) by
    have h1 := (hW.block w.heap.size (by omega)).trans hX0
    have hb2 : Below w.heap.size w (W.setRow w.heap.size (bytes (Sha.sum b))) := (((Kept.refl [w.heap.size] W).setRow (by simp) _).toBelow (B := w.heap.size) (by simp) (by have := hW.size; omega)) |> (hBX.trans (hW.mono (by omega))).trans
    refine ⟨run_storeVar_row W w.heap.size _ _ _ _ h1 (HIH.out _ (Sha.sum_length b)) (by rw [bytes_size, bytes_size, Sha.sum_length]; rfl) (bytes_one _), ?_, hb2, setRow_heap _ _ _ _ _ _ h1⟩
    obtain ⟨ts, frs, hst2⟩ := (hG.below hb2 (by omega)).starts
    exact rng_of_row _ 0 _ _ _ hst2))
  have HX' := Lib.hid hX'
  have HSZ := Lib.hid (And.intro hXs hsz)
  clear hbl hmp hX hX' hBX hXs hX0 hst hs hG hsz hl
  go_enter Tryd.func27, Tryd.ntmps27
  go_upto_region 1 with fail
  rw [HX'.out]
  -- SUM BEGIN
  refine wp_region_held_drew (S := fun w' => w'.rangeAt 0 0 (words Sha.starts).toList) (by kernel_rfl) (HRN.out X.drew (Below.refl _ _).drew) (fun hHeld => ?_)
  refine wpAnyH_take (i := 0) rfl (by kernel_rfl) (by kernel_rfl) (by kernel_rfl) (fun _ _ _ h => h) (yieldsIf_load_mid (by rfl) 27 (.global 0) rfl _ _ rfl (words Sha.starts).toList _ (fun _ h => h) Tryd.underlying27 rfl HIT.out) (by assumption) ?_
  try simp only [List.getElem_toArray, List.getElem_cons_zero, List.getElem_cons_succ, Act.put, List.setIfInBounds_toArray, List.set_cons_zero, List.set_cons_succ]
  refine wpAnyH_take (i := 1) (v := ?v1) rfl (by kernel_rfl) (by kernel_rfl) (by kernel_rfl) (fun _ _ _ h => h) (Or.inl ⟨by rfl, ?y1⟩) (by assumption) ?r1
  case y1 =>
    intro w' hSw
    go_split_ands
    go_simp
    try with_reducible rfl
  try simp only [List.getElem_toArray, List.getElem_cons_zero, List.getElem_cons_succ, Act.put, List.setIfInBounds_toArray, List.set_cons_zero, List.set_cons_succ]
  refine wpAnyH_take (i := 2) (v := ?v2) rfl (by kernel_rfl) (by kernel_rfl) (by kernel_rfl) (fun _ _ _ h => h) (Or.inl ⟨by rfl, ?y2⟩) (by assumption) ?r2
  case y2 =>
    intro w' hSw
    go_split_ands
    go_simp
    try with_reducible rfl
  try simp only [List.getElem_toArray, List.getElem_cons_zero, List.getElem_cons_succ, Act.put, List.setIfInBounds_toArray, List.set_cons_zero, List.set_cons_succ]
  refine wpAnyH_take (i := 3) (v := ?v3) rfl (by kernel_rfl) (by kernel_rfl) (by kernel_rfl) (fun _ _ _ h => h) (Or.inl ⟨by rfl, ?y3⟩) (by assumption) ?r3
  case y3 =>
    intro w' hSw
    go_split_ands
    go_simp
    try with_reducible rfl
  try simp only [List.getElem_toArray, List.getElem_cons_zero, List.getElem_cons_succ, Act.put, List.setIfInBounds_toArray, List.set_cons_zero, List.set_cons_succ]
  refine wpAnyH_ready (rs := [4]) (by kernel_rfl) (by simp) ?_
  refine AllReadyH.cons (i := 4) rfl (fun K hK => ?_) AllReadyH.nil
  go_simp
  go_at_call 24
  refine (HBH.out X.drew).mono ?_
  rintro e w3 ⟨v3, rfl, ho3, hb3⟩
  obtain ⟨a3, cap3, rfl⟩ := ho3.sl.len
  have HO3 := Lib.hid ho3
  have HB3 := Lib.hid (show Below X.heap.size X w3 from (Below.refl _ X).drew.trans hb3)
  clear ho3 hb3
  refine hK.out _ _ (HRN.out _ HB3.out) (fun hHeld' => ?_)
  clear hHeld hK K
  have hHeld := hHeld'
  clear hHeld'
  try simp only [List.getElem_toArray, List.getElem_cons_zero, List.getElem_cons_succ, Act.put, List.setIfInBounds_toArray, List.set_cons_zero, List.set_cons_succ]
  refine wpAnyH_ready (rs := [5]) (by kernel_rfl) (by simp) ?_
  refine AllReadyH.cons (i := 5) rfl (fun K hK => ?_) AllReadyH.nil
  go_simp
  refine hK.out _ _ (HRN.out _ (HB3.out.alloc HB3.out.size _)) (fun hHeld' => ?_)
  clear hHeld hK K
  have hHeld := hHeld'
  clear hHeld'
  try simp only [List.getElem_toArray, List.getElem_cons_zero, List.getElem_cons_succ, Act.put, List.setIfInBounds_toArray, List.set_cons_zero, List.set_cons_succ]
  have HB4 := Lib.hid (HB3.out.alloc HB3.out.size (.cells #[.slice a b.length cap, .slice a3 (Sha.behind b.length).length cap3] 22))
  have HCC := Lib.hid (concat2 (w3.alloc (.cells #[.slice a b.length cap, .slice a3 (Sha.behind b.length).length cap3] 22)) w3.heap.size _ _ _ _ _ _ (heap_alloc_new _ _) ((HSV.out w3 HB3.out).alloc _) (HO3.out.sl.alloc _) HLB.out)
  refine wpAnyH_ready (rs := [6]) (by kernel_rfl) (by simp) ?_
  refine AllReadyH.cons (i := 6) rfl (fun K hK => ?_) AllReadyH.nil
  go_simp
  go_at_call 63
  refine (HCC.out).mono ?_
  rintro e w5 ⟨v5, rfl, ho5, hb5⟩
  have HO5 := Lib.hid ho5
  have HB5 := Lib.hid (HB4.out.trans (hb5.mono HB4.out.size))
  clear ho5 hb5 HCC
  refine hK.out _ _ (HRN.out _ HB5.out) (fun hHeld' => ?_)
  clear hHeld hK K
  have hHeld := hHeld'
  clear hHeld'
  try simp only [List.getElem_toArray, List.getElem_cons_zero, List.getElem_cons_succ, Act.put, List.setIfInBounds_toArray, List.set_cons_zero, List.set_cons_succ]
  refine wpAnyH_ready (rs := [7]) (by kernel_rfl) (by simp) ?_
  refine AllReadyH.cons (i := 7) rfl (fun K hK => ?_) AllReadyH.nil
  go_simp
  go_at_call 62
  refine (HFO.out _ w5 HO5.out.sl (HGX.out _ HB5.out)).mono ?_
  rintro e w6 ⟨rfl, hb6⟩
  have HB6 := Lib.hid (HB5.out.trans (hb6.mono HB5.out.size))
  clear hb6
  refine hK.out _ _ (HRN.out _ HB6.out) (fun hHeld' => ?_)
  clear hHeld hK K
  have hHeld := hHeld'
  clear hHeld'
  try simp only [List.getElem_toArray, List.getElem_cons_zero, List.getElem_cons_succ, Act.put, List.setIfInBounds_toArray, List.set_cons_zero, List.set_cons_succ]
  refine wpAnyH_ready (rs := [8]) (by kernel_rfl) (by simp) ?_
  refine AllReadyH.cons (i := 8) rfl (fun K hK => ?_) AllReadyH.nil
  go_simp
  go_at_call 64
  refine (HTO.out w6).mono ?_
  rintro e w7 ⟨rfl, hb7⟩
  have HB7 := Lib.hid (HB6.out.trans (hb7.mono HB6.out.size))
  have HST := Lib.hid (HOU.out w7 HB7.out)
  clear hb7
  refine hK.out _ _ (HRN.out _ HB7.out) (fun hHeld' => ?_)
  clear hHeld hK K
  have hHeld := hHeld'
  clear hHeld'
  try simp only [List.getElem_toArray, List.getElem_cons_zero, List.getElem_cons_succ, Act.put, List.setIfInBounds_toArray, List.set_cons_zero, List.set_cons_succ]
  refine wpAnyH_ready (rs := [9]) (by kernel_rfl) (by simp) ?_
  refine AllReadyH.cons (i := 9) rfl (fun K hK => ?_) AllReadyH.nil
  refine any_store_at rfl 32 (.tmp 2) (.tmp 11) rfl ⟨_, 0, none⟩ _ _ rfl rfl HST.out.1 ?_
  refine hK.out _ _ (HST.out.2.1) (fun hHeld' => ?_)
  clear hHeld hK K hHeld'
  try simp only [List.getElem_toArray, List.getElem_cons_zero, List.getElem_cons_succ, Act.put, List.setIfInBounds_toArray, List.set_cons_zero, List.set_cons_succ]
  refine wpAnyH_done (by kernel_rfl) ?_ _
  -- SUM END
  go_wp2
  exact bodyPost_ret (results_cell_row Tryd.results27 _ _ w.heap.size _ _ _ _ rfl HST.out.2.2.2 Tryd.underlying32 rfl (HIH.out _ (Sha.sum_length b))) rfl ⟨rfl, HST.out.2.2.1⟩
end Go.Proofs.YtnoilogepkelaaaDoor
namespace Go.Proofs.YtnoilogepkelaaaDoor
set_option linter.unusedVariables false
set_option linter.unusedSimpArgs false
open Go Go.RowKit
attribute [local go_sem] u32_add u32_sub u32_xor u32_or u32_and' u32_shl u32_shr
namespace Sha
/-- m words of which i bytes have come. -/
def pringN (m : Nat) (b : List (BitVec 8)) (i : Nat) : List (BitVec 32) := (List.range m).map fun p => pw b p (min 4 (i - 4 * p))
theorem pringN_length (m : Nat) (b : List (BitVec 8)) (i : Nat) : (pringN m b i).length = m := by simp [pringN]
theorem pringN_zero (m : Nat) (b : List (BitVec 8)) : pringN m b 0 = List.replicate m 0 := by
  have : ∀ p, pw b p (min 4 (0 - 4 * p)) = 0 := fun p => by rw [show min 4 (0 - 4 * p) = 0 by omega]; rfl
  simp only [pringN, this, List.map_const', List.length_range]
theorem pringN_all (m : Nat) (b : List (BitVec 8)) : pringN m b (4 * m) = (List.range m).map (wordAt b) := by
  simp only [pringN]
  apply List.map_congr_left
  intro p hp
  have := List.mem_range.1 hp
  rw [show min 4 (4 * m - 4 * p) = 4 by omega, pw_four]
theorem pringN_getD (m : Nat) (b : List (BitVec 8)) (i p : Nat) (h : p < m) : (pringN m b i).getD p 0 = pw b p (min 4 (i - 4 * p)) := by simp [pringN, List.getD, h]
theorem pringN_succ (m : Nat) (b : List (BitVec 8)) (i : Nat) (h : i < 4 * m) : pringN m b (i + 1) = (pringN m b i).set (i / 4) ((pringN m b i).getD (i / 4) 0 <<< 8 ||| (b.getD i 0).setWidth 32) := by
  apply List.ext_getElem?
  intro p
  by_cases hp : p < m
  · rw [List.getElem?_set]
    have hl : (pringN m b i).length = m := pringN_length m b i
    by_cases e : i / 4 = p
    · rw [if_pos e, if_pos (by omega)]
      subst e
      rw [pringN_getD m b i _ hp]
      simp only [pringN, List.getElem?_map, List.getElem?_range hp, Option.map_some]
      rw [show min 4 (i + 1 - 4 * (i / 4)) = min 4 (i - 4 * (i / 4)) + 1 by omega, pw, show 4 * (i / 4) + min 4 (i - 4 * (i / 4)) = i by omega]
    · rw [if_neg e]
      simp only [pringN, List.getElem?_map, List.getElem?_range hp, Option.map_some]
      rw [show min 4 (i + 1 - 4 * p) = min 4 (i - 4 * p) by omega]
  · rw [List.getElem?_eq_none (by rw [pringN_length]; omega), List.getElem?_eq_none (by rw [List.length_set, pringN_length]; omega)]
end Sha
theorem results_row_tmp {P : Program} {fn : Func} {p u : Tmp} {ty : TypeId} (h : fn.results = #[.cell p ty, .tmp u]) (tmps : Array Value) (w : World) (g : Nat) (t : TypeId) (cs : Array Value) (fr : Nat × Nat) (d : TypeDesc)
    (hp : tmps.getD p undef = .pointer (some ⟨g, 0, none⟩)) (hg : w.heap[g]? = some (.cells cs t fr))
    (hu : P.underlying ty = some d) (hd : (match d with | .struct _ | .array _ _ => true | _ => false) = true) (hi : (P.info? ty).map (·.size) = some cs.size) :
    (results fn tmps).run P w = .ok (.tuple #[.agg cs, tmps.getD u undef]) w := by
  have hp' : tmps[p]?.getD undef = .pointer (some ⟨g, 0, none⟩) := by simpa using hp
  simp [results, h, hp', asAddr, run_loadVar_row w g t ty cs fr d hg hu hd hi]

/-- What Resume holds between its rounds. -/
structure ResI (w : World) (O R : Nat) (h : List (BitVec 8)) (r : List (BitVec 32)) (wr : World) : Prop where
  eq : O = w.heap.size + 1 ∧ R = w.heap.size + 2
  out : wr.heap[O]? = some (.cells (bytes (List.replicate 32 0)) 32 (0, 0))
  ring : wr.heap[R]? = some (.cells (words r) 27 (0, 0))
  below : Below w.heap.size w wr
theorem ResI.setR {w : World} {O R : Nat} {h : List (BitVec 8)} {r : List (BitVec 32)} {wr : World} (hi : ResI w O R h r wr) (p : Nat) (x : BitVec 32) : ResI w O R h (r.set p x) (wr.setCell ⟨R, p, none⟩ (.int .u32 (wv x))) := by
  have hl := hi.eq
  refine ⟨hi.eq, (heap_setCell_other _ _ _ _ (by simp; omega)).trans hi.out, ?_, hi.below.setCell (p := ⟨R, p, none⟩) (by simp; omega) _⟩
  have h2 := heap_setCell_same wr R p _ _ (.int .u32 (wv x)) hi.ring
  rwa [words_set] at h2

set_option maxRecDepth 100000 in
set_option maxHeartbeats 4000000 in
theorem resume_err (h : List (BitVec 8)) (hh : h.length = 32) (n : Int) (hn : n < 0 ∨ 72057594037927936 < n) (v : Value) (w : World) :
    Calls Tryd.prog 29 #[.agg (bytes h), .int .i64 n, v] w fun e w' => e = .returned (.tuple #[.agg (bytes (List.replicate 32 0)), .int .i64 2]) ∧ Below w.heap.size w w' := by
  have HIH := Lib.hid (fun (xs : List (BitVec 8)) (h : xs.length = 32) => (show (Tryd.prog.info? 32).map (·.size) = some (bytes xs).size by rw [bytes_size, h]; kernel_rfl))
  obtain ⟨bb, hbb⟩ : ∃ bb, bytes h = bb := ⟨_, rfl⟩
  rw [hbb]
  obtain ⟨X, hX, hBX, hXs, hX0, hX1⟩ := alloc2 w (.cells bb 32) (.cells (bytes (List.replicate 32 0)) 32)
  have HX := Lib.hid (And.intro hX (And.intro hX1 hBX))
  clear hX hX1 hX0 hXs hBX hbb hh
  go_enter Tryd.func29, Tryd.ntmps29
  go_upto_region 1 with fail
  obtain ⟨Y, hY⟩ : ∃ Y, X = Y := ⟨_, rfl⟩
  have HX' : Hid (_ = Y) := Lib.hid (HX.out.1.trans hY)
  subst hY
  rw [show (w.alloc (.cells bb 32)).alloc (.cells #[.int .u8 0, .int .u8 0, .int .u8 0, .int .u8 0, .int .u8 0, .int .u8 0, .int .u8 0, .int .u8 0, .int .u8 0, .int .u8 0, .int .u8 0, .int .u8 0, .int .u8 0, .int .u8 0, .int .u8 0, .int .u8 0, .int .u8 0, .int .u8 0, .int .u8 0, .int .u8 0, .int .u8 0, .int .u8 0, .int .u8 0, .int .u8 0, .int .u8 0, .int .u8 0, .int .u8 0, .int .u8 0, .int .u8 0, .int .u8 0, .int .u8 0, .int .u8 0] 32) = X from HX.out.1]
  clear HX'
  have HST : Hid (X.setRow (w.heap.size + 1) (bytes (List.replicate 32 0)) = X) := setRow_self _ _ _ _ _ HX.out.2.1
  have HI0 := Lib.hid (HIH.out (List.replicate 32 0) (by simp))
  by_cases h0 : n < 0
  all_goals
    go_wp2_with (refine wpList_store_row rfl 32 (.tmp 6) (.tmp 18) rfl (w.heap.size + 1) (bytes (List.replicate 32 0)) rfl rfl _ _ HX.out.2.1 HI0.out rfl (bytes_one _) ?_; rw [HST.out])
    exact bodyPost_ret (results_row_tmp Tryd.results29 _ _ (w.heap.size + 1) _ _ _ _ rfl HX.out.2.1 Tryd.underlying32 rfl HI0.out) rfl ⟨rfl, HX.out.2.2⟩

set_option maxRecDepth 100000 in
set_option maxHeartbeats 4000000 in
theorem resume_any (h : List (BitVec 8)) (hh : h.length = 32) (n : Nat) (hn : n ≤ 72057594037927936) (b : List (BitVec 8)) (v : Value) (w : World) (hs : SlB w v b) (hl : b.length ≤ 50000000) (hG : Glob w) :
    Calls Tryd.prog 29 #[.agg (bytes h), .int .i64 (n : Int), v] w fun e w' => e = .returned (.tuple #[.agg (bytes (Sha.resume h n b)), .int .i64 0]) ∧ Below w.heap.size w w' := by
  obtain ⟨a, cap, rfl⟩ := hs.len
  have hsz := hG.size
  have HN := Lib.hid hn
  have HL := Lib.hid hl
  have HIH := Lib.hid (fun (xs : List (BitVec 8)) (h : xs.length = 32) => (show (Tryd.prog.info? 32).map (·.size) = some (bytes xs).size by rw [bytes_size, h]; kernel_rfl))
  have hix := fun (i : Nat) (hi : i < 32) => run_index_row (P := Tryd.prog) (T := 32) (E := 5) Tryd.underlying32 Tryd.underlying5 rfl (by kernel_rfl) (bytes h) (by rw [bytes_size]; exact hh) (i : Int) (by omega) (by omega)
  have HIX := Lib.hid hix
  have HIB := HIH.out h hh
  have HH := Lib.hid hh
  obtain ⟨bb, hbb⟩ : ∃ bb, bytes h = bb := ⟨_, rfl⟩
  rw [hbb] at HIX HIB ⊢
  have HBB := Lib.hid hbb
  have HIB := Lib.hid HIB
  clear hix hbb hh
  go_enter Tryd.func29, Tryd.ntmps29
  go_upto_region 4 with fail
  obtain ⟨X, hX, hBX, hXs, hX0, hX1, hX2⟩ := alloc3 w (.cells bb 32) (.cells (bytes (List.replicate 32 0)) 32) (.cells (words (List.replicate 8 0)) 27)
  rw [show ((w.alloc (.cells bb 32)).alloc (.cells #[.int .u8 0, .int .u8 0, .int .u8 0, .int .u8 0, .int .u8 0, .int .u8 0, .int .u8 0, .int .u8 0, .int .u8 0, .int .u8 0, .int .u8 0, .int .u8 0, .int .u8 0, .int .u8 0, .int .u8 0, .int .u8 0, .int .u8 0, .int .u8 0, .int .u8 0, .int .u8 0, .int .u8 0, .int .u8 0, .int .u8 0, .int .u8 0, .int .u8 0, .int .u8 0, .int .u8 0, .int .u8 0, .int .u8 0, .int .u8 0, .int .u8 0, .int .u8 0] 32)).alloc (.cells #[.int .u32 0, .int .u32 0, .int .u32 0, .int .u32 0, .int .u32 0, .int .u32 0, .int .u32 0, .int .u32 0] 27) = X from hX]
  have hI : ResI w (w.heap.size + 1) (w.heap.size + 1 + 1) h (Sha.pringN 8 h 0) X := ⟨⟨rfl, rfl⟩, hX1, by rw [Sha.pringN_zero]; exact hX2, hBX⟩
  have HI := Lib.hid hI
  have HBK := Lib.hid hX0
  have HS := Lib.hid hs
  have HG := Lib.hid hG
  clear hI hX hBX hXs hX0 hX1 hX2 hs hG
  generalize w.heap.size + 1 + 1 = R at *
  generalize w.heap.size + 1 = O at *
  go_upto_region 5 with (refine wpList_load_row rfl 32 (.tmp 3) rfl w.heap.size rfl _ _ _ _ HBK.out Tryd.underlying32 rfl HIB.out ?_)
  clear HBK HIB
  go_loopw [20] (fun s wr => ∃ i : Nat, i ≤ 32 ∧ s = .int .i64 i ∧ Hid (ResI w O R h (Sha.pringN 8 h i) wr)) (fun s _ => 32 - (intOf s).toNat)
  case atStart => exact ⟨0, by omega, rfl, HI⟩
  case round =>
    clear HI
    obtain ⟨i, hi, rfl, HI⟩ := hrel
    by_cases hlt : i < 32
    · have hx := fun (W : World) => HIX.out i hlt W
      rw [← HBB.out, Int.toNat_natCast, Array.getD_eq_getD_getElem?, bytes_get? h i (by rw [HH.out]; exact hlt), Option.getD_some, HBB.out] at hx
      have hn := HI.out.setR (i / 4) ((Sha.pringN 8 h i).getD (i / 4) 0 <<< 8 ||| (h.getD i 0).setWidth 32)
      rw [← Sha.pringN_succ 8 h i hlt] at hn
      have cr := (cell_of_row wr R (i / 4) _ _ _ HI.out.ring).trans (words_get? _ (i / 4) (by rw [Sha.pringN_length]; omega))
      have fr := frozen_of_row wr R (i / 4) _ _ HI.out.ring
      generalize (Sha.pringN 8 h i).getD (i / 4) 0 = x at cr hn
      generalize h.getD i 0 = y at hx hn
      have HN := Lib.hid hn
      obtain ⟨q, hq, hq16⟩ : ∃ q : Nat, i / 4 = q ∧ q < 8 := ⟨_, rfl, by omega⟩
      have hqi : (i : Int) / 4 = q := by omega
      rw [hq] at cr fr HN
      have hy : bv y = wv (y.setWidth 32) := by rw [← u8_to_u32, wrap_u32_mod]; have := bv_nonneg y; have := bv_lt y; omega
      have hs8 : wv x * (256 : Int) % (4294967296 : Int) = wv (x <<< 8) := by rw [← wrap_u32_mod]; exact u32_shl8 x
      have hyw : wv (y.setWidth 32) % (4294967296 : Int) = wv (y.setWidth 32) := Int.emod_eq_of_lt (wv_nonneg _) (wv_lt _)
      clear hn hq
      go_wp2
      exact ⟨⟨i + 1, by omega, by go_num, HN⟩, by simp [intOf]; omega⟩
    · obtain rfl : i = 32 := by omega
      rw [show 32 = 4 * 8 from rfl, Sha.pringN_all] at HI
      have HIR : Hid (ResI w O R h (Sha.words h) wr) := HI
      have heq := HI.out.eq
      have HE := Lib.hid (And.intro heq.1 (And.intro heq.2 hsz))
      have HB0 := Lib.hid (behind_any n (by omega) wr)
      have hbl := Sha.behind_length n
      have hmp := Sha.many_pos n
      have HBW := Lib.hid (Sha.behind_whole n)
      obtain ⟨m, hm⟩ : ∃ m, (Sha.behind n).length = m := ⟨_, rfl⟩
      rw [hm] at hbl HBW
      have HM := Lib.hid hm
      have hm72 : m ≤ 72 := by omega
      obtain ⟨N, hN⟩ : ∃ N, n + m + b.length = N := ⟨_, rfl⟩
      obtain ⟨lb, hlb⟩ : ∃ lb, b.length = lb := ⟨_, rfl⟩
      have HLB0 := Lib.hid hlb
      rw [hlb] at hN hl HL HS ⊢
      clear HI heq hbl hmp hm HIX HBB hlb
      go_upto_region 10 with (go_at_call 24; refine HB0.out.mono ?_; rintro e X ⟨v0, rfl, ho0, hb0⟩; obtain ⟨a0, cap0, rfl⟩ := ho0.sl.len; rw [HM.out]; have HBX := Lib.hid hb0; clear ho0 hb0)
      rw [show ((n : Int) + (m : Int) + (lb : Int)) = ((N : Nat) : Int) by omega]
      have hRX : X.heap[R]? = some (.cells (words (Sha.words h)) 27 (0, 0)) := (HBX.out.block _ (Array.getElem?_eq_some_iff.1 HIR.out.ring).1).trans HIR.out.ring
      have hOX : X.heap[O]? = some (.cells (bytes (List.replicate 32 0)) 32 (0, 0)) := (HBX.out.block _ (Array.getElem?_eq_some_iff.1 HIR.out.out).1).trans HIR.out.out
      have hRs := (Array.getElem?_eq_some_iff.1 hRX).1
      have hOs := (Array.getElem?_eq_some_iff.1 hOX).1
      have hbX : Below w.heap.size w X := HIR.out.below.trans (HBX.out.mono HIR.out.below.size)
      have hEs := HE.out
      have hcong : (lb + (Sha.behind N).length) % 64 = 0 := by
        have h1 := Sha.behind_whole N
        have h2 := HBW.out
        omega
      have hbN := Sha.behind_length N
      have hmN := Sha.many_pos N
      have HBH := Lib.hid (fun W => behind_any N (by omega) W)
      have HLB := Lib.hid (show b.length + (Sha.behind N).length ≤ 500000000 by rw [HLB0.out]; omega)
      have HFO := Lib.hid (fun v5 w5 h5 hg => fold_any (Sha.words h) (Sha.words_length h) (b ++ Sha.behind N) v5 w5 h5 (by rw [List.length_append, HLB0.out]; omega) (by rw [List.length_append, HLB0.out]; omega) (by rw [List.length_append, HLB0.out]; exact hcong) hg)
      have HTO := Lib.hid (fun W => told_any (Sha.fold (Sha.words h) (b ++ Sha.behind N)) (Sha.foldN_length _ _ _ (Sha.words_length h)) W)
      have HIT := Lib.hid (show (Tryd.prog.info? 27).map (·.size) = some (words (Sha.words h)).toList.length by rw [Array.length_toList, words_size, Sha.words_length]; kernel_rfl)
      have HRN := Lib.hid (fun W (hW : Below X.heap.size X W) => rng_below (rng_of_row X R _ _ _ hRX) hW hRs)
      have HGX := Lib.hid (fun W (hW : Below X.heap.size X W) => (HG.out.below hbX hEs.2.2).below hW (by have := hbX.size; omega))
      have HSV := Lib.hid (fun W (hW : Below X.heap.size X W) => (HS.out.below hbX (Nat.le_refl _)).below hW (Nat.le_refl _))
      have hres : Sha.told (Sha.fold (Sha.words h) (b ++ Sha.behind N)) = Sha.resume h n b := by rw [Sha.resume, HM.out, HLB0.out, hN]
      have HRL := Lib.hid (show (Sha.resume h n b).length = 32 by rw [← hres]; exact Sha.told_length _)
      have HRE := Lib.hid hres
      have HOU := Lib.hid (fun W (hW : Below X.heap.size X W) => (show (storeVar 32 ⟨O, 0, none⟩ (.agg (bytes (Sha.told (Sha.fold (Sha.words h) (b ++ Sha.behind N)))))).run Tryd.prog W = .ok () (W.setRow O (bytes (Sha.resume h n b))) ∧
          (W.setRow O (bytes (Sha.resume h n b))).rangeAt R 0 (words (Sha.words h)).toList ∧ Below w.heap.size w (W.setRow O (bytes (Sha.resume h n b))) ∧ (W.setRow O (bytes (Sha.resume h n b))).heap[O]? = some (.cells (bytes (Sha.resume h n b)) 32 (0, 0)) by
        rw [hres]
        have h1 := (hW.block O hOs).trans hOX
        have h2 := (hW.block R hRs).trans hRX
        refine ⟨run_storeVar_row W O _ _ _ _ h1 (HIH.out _ HRL.out) (by rw [bytes_size, bytes_size, HRL.out]; rfl) (bytes_one _), rng_of_row _ R _ _ _ ((setRow_other _ _ _ _ (by omega)).trans h2), ?_, setRow_heap _ _ _ _ _ _ h1⟩
        exact (hbX.trans (hW.mono hbX.size)).trans (((Kept.refl [O] W).setRow (by simp) _).toBelow (B := w.heap.size) (by simp; omega) (by have := hW.size; have := hbX.size; omega))))
      clear hRX hOX hRs hOs hbX hEs hcong hbN hmN hres
      -- RESUME BEGIN
      refine wp_region_held_drew (S := fun w' => w'.rangeAt R 0 (words (Sha.words h)).toList) (by kernel_rfl) (HRN.out X.drew (Below.refl _ _).drew) (fun hHeld => ?_)
      refine wpAnyH_take (i := 0) rfl (by kernel_rfl) (by kernel_rfl) (by kernel_rfl) (fun _ _ _ h => h) (yieldsIf_load_mid (by rfl) 27 (.tmp 8) rfl _ _ rfl (words (Sha.words h)).toList _ (fun _ h => h) Tryd.underlying27 rfl HIT.out) (by assumption) ?_
      try simp only [List.getElem_toArray, List.getElem_cons_zero, List.getElem_cons_succ, Act.put, List.setIfInBounds_toArray, List.set_cons_zero, List.set_cons_succ]
      refine wpAnyH_take (i := 1) (v := ?v4) rfl (by kernel_rfl) (by kernel_rfl) (by kernel_rfl) (fun _ _ _ h => h) (Or.inl ⟨by rfl, ?y4⟩) (by assumption) ?r4
      case y4 =>
        intro w' hSw
        go_split_ands
        go_simp
        try with_reducible rfl
      try simp only [List.getElem_toArray, List.getElem_cons_zero, List.getElem_cons_succ, Act.put, List.setIfInBounds_toArray, List.set_cons_zero, List.set_cons_succ]
      refine wpAnyH_take (i := 2) (v := ?v5) rfl (by kernel_rfl) (by kernel_rfl) (by kernel_rfl) (fun _ _ _ h => h) (Or.inl ⟨by rfl, ?y5⟩) (by assumption) ?r5
      case y5 =>
        intro w' hSw
        go_split_ands
        go_simp
        try with_reducible rfl
      try simp only [List.getElem_toArray, List.getElem_cons_zero, List.getElem_cons_succ, Act.put, List.setIfInBounds_toArray, List.set_cons_zero, List.set_cons_succ]
      refine wpAnyH_ready (rs := [3]) (by kernel_rfl) (by simp) ?_
      refine AllReadyH.cons (i := 3) rfl (fun K hK => ?_) AllReadyH.nil
      go_simp
      go_at_call 24
      refine (HBH.out X.drew).mono ?_
      rintro e w3 ⟨v3, rfl, ho3, hb3⟩
      obtain ⟨a3, cap3, rfl⟩ := ho3.sl.len
      have HO3 := Lib.hid ho3
      have HB3 := Lib.hid (show Below X.heap.size X w3 from (Below.refl _ X).drew.trans hb3)
      clear ho3 hb3
      refine hK.out _ _ (HRN.out _ HB3.out) (fun hHeld' => ?_)
      clear hHeld hK K
      have hHeld := hHeld'
      clear hHeld'
      try simp only [List.getElem_toArray, List.getElem_cons_zero, List.getElem_cons_succ, Act.put, List.setIfInBounds_toArray, List.set_cons_zero, List.set_cons_succ]
      refine wpAnyH_ready (rs := [4]) (by kernel_rfl) (by simp) ?_
      refine AllReadyH.cons (i := 4) rfl (fun K hK => ?_) AllReadyH.nil
      go_simp
      refine hK.out _ _ (HRN.out _ (HB3.out.alloc HB3.out.size _)) (fun hHeld' => ?_)
      clear hHeld hK K
      have hHeld := hHeld'
      clear hHeld'
      try simp only [List.getElem_toArray, List.getElem_cons_zero, List.getElem_cons_succ, Act.put, List.setIfInBounds_toArray, List.set_cons_zero, List.set_cons_succ]
      have HB4 := Lib.hid (HB3.out.alloc HB3.out.size (.cells #[.slice a lb cap, .slice a3 (Sha.behind N).length cap3] 22))
      have HCC := Lib.hid (concat2 (w3.alloc (.cells #[.slice a lb cap, .slice a3 (Sha.behind N).length cap3] 22)) w3.heap.size _ _ _ _ _ _ (heap_alloc_new _ _) ((HSV.out w3 HB3.out).alloc _) (HO3.out.sl.alloc _) HLB.out)
      refine wpAnyH_ready (rs := [5]) (by kernel_rfl) (by simp) ?_
      refine AllReadyH.cons (i := 5) rfl (fun K hK => ?_) AllReadyH.nil
      go_simp
      go_at_call 63
      refine (HCC.out).mono ?_
      rintro e w5 ⟨v5, rfl, ho5, hb5⟩
      have HO5 := Lib.hid ho5
      have HB5 := Lib.hid (HB4.out.trans (hb5.mono HB4.out.size))
      clear ho5 hb5 HCC
      refine hK.out _ _ (HRN.out _ HB5.out) (fun hHeld' => ?_)
      clear hHeld hK K
      have hHeld := hHeld'
      clear hHeld'
      try simp only [List.getElem_toArray, List.getElem_cons_zero, List.getElem_cons_succ, Act.put, List.setIfInBounds_toArray, List.set_cons_zero, List.set_cons_succ]
      refine wpAnyH_ready (rs := [6]) (by kernel_rfl) (by simp) ?_
      refine AllReadyH.cons (i := 6) rfl (fun K hK => ?_) AllReadyH.nil
      go_simp
      go_at_call 62
      refine (HFO.out _ w5 HO5.out.sl (HGX.out _ HB5.out)).mono ?_
      rintro e w6 ⟨rfl, hb6⟩
      have HB6 := Lib.hid (HB5.out.trans (hb6.mono HB5.out.size))
      clear hb6
      refine hK.out _ _ (HRN.out _ HB6.out) (fun hHeld' => ?_)
      clear hHeld hK K
      have hHeld := hHeld'
      clear hHeld'
      try simp only [List.getElem_toArray, List.getElem_cons_zero, List.getElem_cons_succ, Act.put, List.setIfInBounds_toArray, List.set_cons_zero, List.set_cons_succ]
      refine wpAnyH_ready (rs := [7]) (by kernel_rfl) (by simp) ?_
      refine AllReadyH.cons (i := 7) rfl (fun K hK => ?_) AllReadyH.nil
      go_simp
      go_at_call 64
      refine (HTO.out w6).mono ?_
      rintro e w7 ⟨rfl, hb7⟩
      have HB7 := Lib.hid (HB6.out.trans (hb7.mono HB6.out.size))
      have HST := Lib.hid (HOU.out w7 HB7.out)
      clear hb7
      refine hK.out _ _ (HRN.out _ HB7.out) (fun hHeld' => ?_)
      clear hHeld hK K
      have hHeld := hHeld'
      clear hHeld'
      try simp only [List.getElem_toArray, List.getElem_cons_zero, List.getElem_cons_succ, Act.put, List.setIfInBounds_toArray, List.set_cons_zero, List.set_cons_succ]
      refine wpAnyH_ready (rs := [8]) (by kernel_rfl) (by simp) ?_
      refine AllReadyH.cons (i := 8) rfl (fun K hK => ?_) AllReadyH.nil
      refine any_store_at rfl 32 (.tmp 6) (.tmp 51) rfl ⟨_, 0, none⟩ _ _ rfl rfl HST.out.1 ?_
      refine hK.out _ _ (HST.out.2.1) (fun hHeld' => ?_)
      clear hHeld hK K
      have hHeld := hHeld'
      clear hHeld'
      try simp only [List.getElem_toArray, List.getElem_cons_zero, List.getElem_cons_succ, Act.put, List.setIfInBounds_toArray, List.set_cons_zero, List.set_cons_succ]
      refine wpAnyH_take (i := 9) (v := ?v6) rfl (by kernel_rfl) (by kernel_rfl) (by kernel_rfl) (fun _ _ _ h => h) (Or.inl ⟨by rfl, ?y6⟩) (by assumption) ?r6
      case y6 =>
        intro w' hSw
        go_split_ands
        go_simp
        try with_reducible rfl
      try simp only [List.getElem_toArray, List.getElem_cons_zero, List.getElem_cons_succ, Act.put, List.setIfInBounds_toArray, List.set_cons_zero, List.set_cons_succ]
      refine wpAnyH_done (by kernel_rfl) ?_ _
      -- RESUME END
      go_wp2
      exact bodyPost_ret (results_row_tmp Tryd.results29 _ _ O _ _ _ _ rfl HST.out.2.2.2 Tryd.underlying32 rfl (HIH.out _ HRL.out)) rfl ⟨rfl, HST.out.2.2.1⟩
end Go.Proofs.YtnoilogepkelaaaDoor
namespace Go.Proofs.YtnoilogepkelaaaDoor
set_option linter.unusedVariables false
set_option linter.unusedSimpArgs false
open Go Go.RowKit
namespace Sha
/-- A digit. -/
def dg (n : Nat) : BitVec 8 := BitVec.ofNat 8 (if n < 10 then 48 + n else 87 + n)
/-- A byte's two digits. -/
def two (c : BitVec 8) : List (BitVec 8) := [dg (c.toNat / 16), dg (c.toNat % 16)]
def text (h : List (BitVec 8)) : List (BitVec 8) := h.flatMap two
theorem text_length (h : List (BitVec 8)) : (text h).length = 2 * h.length := by
  induction h with
  | nil => rfl
  | cons c h ih => simp only [text, List.flatMap_cons, List.length_append] at ih ⊢; rw [ih]; simp [two]; omega
theorem text_take (h : List (BitVec 8)) (i : Nat) (hi : i < h.length) : text (h.take (i + 1)) = text (h.take i) ++ two (h.getD i 0) := by
  rw [List.take_succ_eq_append_getElem hi, text, List.flatMap_append, text, List.getD, List.getElem?_eq_getElem hi]
  simp
/-- A digit's value. -/
def nib (n : Int) : Int := if 48 ≤ n ∧ n ≤ 57 then n - 48 else if 97 ≤ n ∧ n ≤ 102 then n - 87 else 16
end Sha
set_option maxRecDepth 100000 in
theorem idx_dig (k : Nat) (hk : k < 16) (W : World) : (Instr.index 9 (.string { data := #[48, 49, 50, 51, 52, 53, 54, 55, 56, 57, 97, 98, 99, 100, 101, 102] }) (.int .u8 (k : Int))).run Tryd.prog W = .ok (.int .u8 (bv (Sha.dg k))) W := by
  have : k = 0 ∨ k = 1 ∨ k = 2 ∨ k = 3 ∨ k = 4 ∨ k = 5 ∨ k = 6 ∨ k = 7 ∨ k = 8 ∨ k = 9 ∨ k = 10 ∨ k = 11 ∨ k = 12 ∨ k = 13 ∨ k = 14 ∨ k = 15 := by omega
  rcases this with rfl | rfl | rfl | rfl | rfl | rfl | rfl | rfl | rfl | rfl | rfl | rfl | rfl | rfl | rfl | rfl <;> rfl

set_option maxRecDepth 100000 in
theorem nibble_any (n : Nat) (hn : n < 256) (w : World) : Calls Tryd.prog 71 #[.int .u8 (n : Int)] w fun e w' => e = .returned (.int .u8 (Sha.nib n)) ∧ w' = w := by
  by_cases h1 : (48 : Int) ≤ n
  · by_cases h2 : (n : Int) ≤ 57
    · have e : Sha.nib n = n - 48 := by unfold Sha.nib; rw [if_pos ⟨h1, h2⟩]
      rw [e]
      go_enter Tryd.func71, Tryd.ntmps71
      go_wp2
      go_ret
      exact ⟨rfl, rfl⟩
    · by_cases h3 : (97 : Int) ≤ n
      · by_cases h4 : (n : Int) ≤ 102
        · have e : Sha.nib n = n - 97 + 10 := by unfold Sha.nib; rw [if_neg (by omega), if_pos ⟨h3, h4⟩]; omega
          rw [e]
          go_enter Tryd.func71, Tryd.ntmps71
          go_wp2
          go_ret
          exact ⟨rfl, rfl⟩
        · have e : Sha.nib n = 16 := by unfold Sha.nib; rw [if_neg (by omega), if_neg (by omega)]
          rw [e]
          go_enter Tryd.func71, Tryd.ntmps71
          go_wp2
          go_ret
          exact ⟨rfl, rfl⟩
      · have e : Sha.nib n = 16 := by unfold Sha.nib; rw [if_neg (by omega), if_neg (by omega)]
        rw [e]
        go_enter Tryd.func71, Tryd.ntmps71
        go_wp2
        go_ret
        exact ⟨rfl, rfl⟩
  · have e : Sha.nib n = 16 := by unfold Sha.nib; rw [if_neg (by omega), if_neg (by omega)]
    rw [e]
    go_enter Tryd.func71, Tryd.ntmps71
    go_wp2
    go_ret
    exact ⟨rfl, rfl⟩

theorem made_cap (n : Nat) (hn : n ≤ 1000000) (w : World) : (Instr.makeSlice 22 (.int .i64 0) (.int .i64 (n : Int))).run Tryd.prog w = .ok (.slice (some ⟨w.heap.size, 0, none⟩) 0 n) (w.alloc (.cells (bytes (List.replicate n 0)) 5)) := by
  obtain ⟨i, hi, hz, hsz, hby⟩ := info_parts info_u8
  have hm := run_makeSlice (P := Tryd.prog) w 22 5 i (.int .u8 0) Tryd.underlying22 hi hz .i64 .i64 0 (n : Int) (by omega) (by omega) (by rw [hsz]; omega) (by rw [hby]; omega) (by omega)
  rw [hsz, Int.toNat_natCast, Nat.mul_one] at hm
  have hc : madeCells (Value.int .u8 0).cells n = bytes (List.replicate n 0) := by
    have e0 : (Value.int .u8 0).cells = #[.int .u8 0] := rfl
    apply Array.ext_getElem?
    intro j
    by_cases hj : j < n
    · rw [bytes_get? _ j (by simpa using hj)]
      simp [madeCells, e0, hj, bv, Nat.mod_one]
    · rw [Array.getElem?_eq_none (by rw [size_madeCells]; omega), Array.getElem?_eq_none (by rw [bytes_size]; simp; omega)]
  rw [hc] at hm
  exact hm
theorem own_cap (w : World) (n : Nat) (hn : n ≤ 1000000) {base : Nat} (hb : base ≤ w.heap.size) : OwnB 5 base (w.alloc (.cells (bytes (List.replicate n 0)) 5)) (.slice (some ⟨w.heap.size, 0, none⟩) 0 n) [] :=
  ⟨rfl, .inr ⟨w.heap.size, n, _, rfl, hb, heap_alloc_new w _, Nat.zero_le _, by unfold maxLen; omega, by simp [bytes_size], by simp [bcells]⟩⟩

set_option maxRecDepth 100000 in
set_option maxHeartbeats 4000000 in
theorem text_any (h : List (BitVec 8)) (hh : h.length = 32) (w : World) :
    Calls Tryd.prog 36 #[.agg (bytes h)] w fun e w' => e = .returned (.string (strB (Sha.text h))) ∧ Below w.heap.size w w' := by
  have HIB := Lib.hid (show (Tryd.prog.info? 32).map (·.size) = some (bytes h).size by rw [bytes_size, hh]; kernel_rfl)
  have HIX := Lib.hid (fun (i : Nat) (hi : i < 32) => run_index_row (P := Tryd.prog) (T := 32) (E := 5) Tryd.underlying32 Tryd.underlying5 rfl (by kernel_rfl) (bytes h) (by rw [bytes_size]; exact hh) (i : Int) (by omega) (by omega))
  have HH := Lib.hid hh
  have HTK := Lib.hid (fun i hi => Sha.text_take h i hi)
  obtain ⟨iu, hu0, hu1, hu2, hu3⟩ := info_parts info_u8
  have HU := Lib.hid (And.intro hu0 (And.intro hu1 (And.intro hu2 hu3)))
  obtain ⟨bb, hbb⟩ : ∃ bb, bytes h = bb := ⟨_, rfl⟩
  rw [hbb] at HIX HIB ⊢
  have HBB := Lib.hid hbb
  clear hh hu0 hu1 hu2 hu3 hbb
  obtain ⟨X, hX, hBX, hXs, hX0⟩ := alloc1 w (.cells bb 32)
  have HX := Lib.hid hX
  have hmk := made_cap 64 (by omega) X
  have ho := own_cap X 64 (by omega) (Nat.le_refl _)
  obtain ⟨Y, hY, hBY, hYs, _⟩ := alloc1 X (.cells (bytes (List.replicate 64 0)) 5)
  rw [hY] at hmk ho
  have hmk' : (Instr.makeSlice 22 (.int .i64 0) (.int .i64 64)).run Tryd.prog (w.alloc (.cells bb 32)) = .ok (.slice (some ⟨X.heap.size, 0, none⟩) 0 64) Y := by rw [hX]; exact hmk
  have HB := Lib.hid (hBX.trans (hBY.mono (by omega)))
  have ho' := OwnB.mono (base' := w.heap.size + 1) ho (by omega)
  rw [hXs] at ho'
  have HO : Hid (OwnB 5 (w.heap.size + 1) Y (.slice (some ⟨w.heap.size + 1, 0, none⟩) 0 64) (Sha.text (h.take 0))) := ho'
  clear ho'
  have hbk := (hBY.block w.heap.size (by omega)).trans hX0
  have HBK := Lib.hid hbk
  clear hX hBX hmk ho hY hBY hbk hX0
  go_enter Tryd.func36, Tryd.ntmps36
  go_upto_region 3 with (refine wpList_load_row rfl 32 (.tmp 1) rfl w.heap.size rfl _ _ _ _ HBK.out Tryd.underlying32 rfl HIB.out ?_)
  clear hmk' HBK HIB
  have HS0 := Lib.hid (show w.heap.size + 1 ≤ Y.heap.size by omega)
  clear hXs hYs
  go_loopw [3, 8] (fun v s wr => ∃ i : Nat, i ≤ 32 ∧ s = .int .i64 i ∧ Hid (OwnB 5 (w.heap.size + 1) wr v (Sha.text (h.take i))) ∧ Hid (Below w.heap.size w wr) ∧ Hid (w.heap.size + 1 ≤ wr.heap.size)) (fun _ s _ => 32 - (intOf s).toNat)
  case atStart => exact ⟨0, by omega, rfl, HO, HB, HS0⟩
  case round =>
    clear HO HB HS0
    obtain ⟨i, hi, rfl, HO, HB, HS⟩ := hrel
    by_cases hlt : i < 32
    · have hx := fun (W : World) => HIX.out i hlt W
      rw [← HBB.out, Int.toNat_natCast, Array.getD_eq_getD_getElem?, bytes_get? h i (by rw [HH.out]; exact hlt), Option.getD_some, HBB.out] at hx
      have htk := HTK.out i (by rw [HH.out]; exact hlt)
      have htl := Sha.text_length (h.take i)
      rw [List.length_take, HH.out, Nat.min_eq_left hi] at htl
      have HTL := Lib.hid htl
      generalize h.getD i 0 = c at hx htk
      have hcl := c.isLt
      obtain ⟨n, hn⟩ : ∃ n, c.toNat = n := ⟨_, rfl⟩
      have hb : bv c = (n : Int) := by rw [← hn]; rfl
      rw [hb] at hx
      rw [hn] at hcl
      obtain ⟨q, hq⟩ : ∃ q, n / 16 = q := ⟨_, rfl⟩
      obtain ⟨r, hr⟩ : ∃ r, n % 16 = r := ⟨_, rfl⟩
      rw [Sha.two, hn, hq, hr] at htk
      have HTKN := Lib.hid htk
      have hq1 : (n : Int) / 16 = q := by omega
      have hr1 : (n : Int) % 16 = r := by omega
      have hq2 : (n : Int).tdiv 16 = q := by rw [Int.tdiv_eq_ediv_of_nonneg (by omega)]; exact hq1
      have hr2 : (n : Int).tmod 16 = r := by rw [Int.tmod_eq_emod_of_nonneg (by omega)]; exact hr1
      have hql : q < 16 := by omega
      have hrl : r < 16 := by omega
      have hiq := fun (W : World) => idx_dig q hql W
      have hir := fun (W : World) => idx_dig r hrl W
      have HOA := Lib.hid (OwnB.alloc (show OwnB 5 (w.heap.size + 1) wr.drew u3 (Sha.text (h.take i)) from HO.out) (.cells #[.int .u8 (bv (Sha.dg q)), .int .u8 (bv (Sha.dg r))] 5))
      have HSZ := HS
      clear htk htl hb hn hq hr hcl
      go_upto_region 5 with fail
      -- TEXT BEGIN
      refine wp_region_held_drew (S := fun w' => True) (by kernel_rfl) trivial (fun hHeld => ?_)
      refine wpAnyH_take (i := 0) (v := ?v1) rfl (by kernel_rfl) (by kernel_rfl) (by kernel_rfl) (fun _ _ _ h => h) (Or.inl ⟨by rfl, ?y1⟩) (by assumption) ?r1
      case y1 =>
        intro w' hSw
        go_split_ands
        go_simp
        try with_reducible rfl
      try simp only [List.getElem_toArray, List.getElem_cons_zero, List.getElem_cons_succ, Act.put, List.setIfInBounds_toArray, List.set_cons_zero, List.set_cons_succ]
      refine wpAnyH_take (i := 1) (v := ?v2) rfl (by kernel_rfl) (by kernel_rfl) (by kernel_rfl) (fun _ _ _ h => h) (Or.inl ⟨by rfl, ?y2⟩) (by assumption) ?r2
      case y2 =>
        intro w' hSw
        go_split_ands
        go_simp
        try with_reducible rfl
      try simp only [List.getElem_toArray, List.getElem_cons_zero, List.getElem_cons_succ, Act.put, List.setIfInBounds_toArray, List.set_cons_zero, List.set_cons_succ]
      refine wpAnyH_take (i := 2) (v := ?v3) rfl (by kernel_rfl) (by kernel_rfl) (by kernel_rfl) (fun _ _ _ h => h) (Or.inl ⟨by rfl, ?y3⟩) (by assumption) ?r3
      case y3 =>
        intro w' hSw
        go_split_ands
        go_simp
        try with_reducible rfl
      try simp only [List.getElem_toArray, List.getElem_cons_zero, List.getElem_cons_succ, Act.put, List.setIfInBounds_toArray, List.set_cons_zero, List.set_cons_succ]
      refine wpAnyH_take (i := 3) (v := .int .u8 (bv (Sha.dg q))) rfl (by kernel_rfl) (by kernel_rfl) (by kernel_rfl) (fun _ _ _ h => h) (Or.inl ⟨by rfl, ?y4⟩) (by assumption) ?r4
      case y4 =>
        intro w' hSw
        have h16 : q = 0 ∨ q = 1 ∨ q = 2 ∨ q = 3 ∨ q = 4 ∨ q = 5 ∨ q = 6 ∨ q = 7 ∨ q = 8 ∨ q = 9 ∨ q = 10 ∨ q = 11 ∨ q = 12 ∨ q = 13 ∨ q = 14 ∨ q = 15 := by omega
        clear hHeld hiq hir HOA HO HB HS HTKN HTL hx
        rcases h16 with rfl | rfl | rfl | rfl | rfl | rfl | rfl | rfl | rfl | rfl | rfl | rfl | rfl | rfl | rfl | rfl <;> rfl
      try simp only [List.getElem_toArray, List.getElem_cons_zero, List.getElem_cons_succ, Act.put, List.setIfInBounds_toArray, List.set_cons_zero, List.set_cons_succ]
      refine wpAnyH_take (i := 4) (v := ?v5) rfl (by kernel_rfl) (by kernel_rfl) (by kernel_rfl) (fun _ _ _ h => h) (Or.inl ⟨by rfl, ?y5⟩) (by assumption) ?r5
      case y5 =>
        intro w' hSw
        go_split_ands
        go_simp
        try with_reducible rfl
      try simp only [List.getElem_toArray, List.getElem_cons_zero, List.getElem_cons_succ, Act.put, List.setIfInBounds_toArray, List.set_cons_zero, List.set_cons_succ]
      refine wpAnyH_take (i := 5) (v := ?v6) rfl (by kernel_rfl) (by kernel_rfl) (by kernel_rfl) (fun _ _ _ h => h) (Or.inl ⟨by rfl, ?y6⟩) (by assumption) ?r6
      case y6 =>
        intro w' hSw
        go_split_ands
        go_simp
        try with_reducible rfl
      try simp only [List.getElem_toArray, List.getElem_cons_zero, List.getElem_cons_succ, Act.put, List.setIfInBounds_toArray, List.set_cons_zero, List.set_cons_succ]
      refine wpAnyH_take (i := 6) (v := .int .u8 (bv (Sha.dg r))) rfl (by kernel_rfl) (by kernel_rfl) (by kernel_rfl) (fun _ _ _ h => h) (Or.inl ⟨by rfl, ?y7⟩) (by assumption) ?r7
      case y7 =>
        intro w' hSw
        have h16 : r = 0 ∨ r = 1 ∨ r = 2 ∨ r = 3 ∨ r = 4 ∨ r = 5 ∨ r = 6 ∨ r = 7 ∨ r = 8 ∨ r = 9 ∨ r = 10 ∨ r = 11 ∨ r = 12 ∨ r = 13 ∨ r = 14 ∨ r = 15 := by omega
        clear hHeld hiq hir HOA HO HB HS HTKN HTL hx
        rcases h16 with rfl | rfl | rfl | rfl | rfl | rfl | rfl | rfl | rfl | rfl | rfl | rfl | rfl | rfl | rfl | rfl <;> rfl
      try simp only [List.getElem_toArray, List.getElem_cons_zero, List.getElem_cons_succ, Act.put, List.setIfInBounds_toArray, List.set_cons_zero, List.set_cons_succ]
      refine wpAnyH_ready (rs := [7]) (by kernel_rfl) (by simp) ?_
      refine AllReadyH.cons (i := 7) rfl (fun K hK => ?_) AllReadyH.nil
      go_simp
      refine hK.out _ _ (trivial) (fun hHeld' => ?_)
      clear hHeld hK K
      have hHeld := hHeld'
      clear hHeld'
      try simp only [List.getElem_toArray, List.getElem_cons_zero, List.getElem_cons_succ, Act.put, List.setIfInBounds_toArray, List.set_cons_zero, List.set_cons_succ]
      refine wpAnyH_ready (rs := [8]) (by kernel_rfl) (by simp) ?_
      refine AllReadyH.cons (i := 8) rfl (fun K hK => ?_) AllReadyH.nil
      refine step_append_lies _ rfl (.tmp 11) (.tmp 18) 22 rfl (w.heap.size + 1) 5 _ (.int .u8 0) 1 1 Tryd.underlying22 HU.out.1 HU.out.2.1 HU.out.2.2.1 HU.out.2.2.2 rfl (by decide) u3 _ _ rfl HOA.out ⟨wr.heap.size, 0, none⟩ 2 2 [.int .u8 (bv (Sha.dg q)), .int .u8 (bv (Sha.dg r))] rfl rfl (World.news_of_block (heap_alloc_new wr.drew _)) (by simp [Value.oneCell']) (by decide) (by rw [HTL.out]; unfold maxLen; omega) (by rw [HTL.out]; omega) (Nat.le_trans HSZ.out (((Below.refl _ wr).drew.alloc (Nat.le_refl _) _).size)) _ rfl ?_
      intro g' cap' w2 ho2 hg2 hat2 hlt2
      have HO2 : Hid (OwnB 5 (w.heap.size + 1) w2 (.slice (some ⟨g', 0, none⟩) ((Sha.text (h.take i)).length + 2) cap') (Sha.text (h.take (i + 1)))) := by
        refine Lib.hid ?_
        rw [HTKN.out]
        simpa [OwnB, bcells_append, bcells, byteV] using ho2
      have HB2 := Lib.hid ((HB.out.drew.alloc (show w.heap.size ≤ wr.drew.heap.size from Nat.le_of_succ_le HSZ.out) (.cells #[.int .u8 (bv (Sha.dg q)), .int .u8 (bv (Sha.dg r))] 5)).grown hg2 (Nat.le_trans (Nat.le_of_succ_le HSZ.out) (((Below.refl _ wr).drew.alloc (Nat.le_refl _) _).size)) (fun k hk => Nat.le_of_succ_le (World.ownsRow.lt HO.out k hk).1))
      have HS2 := Lib.hid (Nat.le_trans (Nat.le_trans HSZ.out (((Below.refl _ wr).drew.alloc (Nat.le_refl _) (.cells #[.int .u8 (bv (Sha.dg q)), .int .u8 (bv (Sha.dg r))] 5)).size)) hg2.size)
      clear ho2 hg2 hat2 hlt2
      refine hK.out _ _ (trivial) (fun hHeld' => ?_)
      clear hHeld hK K
      have hHeld := hHeld'
      clear hHeld'
      try simp only [List.getElem_toArray, List.getElem_cons_zero, List.getElem_cons_succ, Act.put, List.setIfInBounds_toArray, List.set_cons_zero, List.set_cons_succ]
      refine wpAnyH_take (i := 9) (v := ?v8) rfl (by kernel_rfl) (by kernel_rfl) (by kernel_rfl) (fun _ _ _ h => h) (Or.inl ⟨by rfl, ?y8⟩) (by assumption) ?r8
      case y8 =>
        intro w' hSw
        go_split_ands
        go_simp
        try with_reducible rfl
      try simp only [List.getElem_toArray, List.getElem_cons_zero, List.getElem_cons_succ, Act.put, List.setIfInBounds_toArray, List.set_cons_zero, List.set_cons_succ]
      refine wpAnyH_done (by kernel_rfl) ?_ _
      -- TEXT END
      go_wp2
      exact ⟨⟨i + 1, by omega, by go_num, HO2, HB2, HS2⟩, by simp [intOf]; omega⟩
    · obtain rfl : i = 32 := by omega
      rw [List.take_of_length_le (by rw [HH.out]; omega)] at HO
      have hcv := conv_any HO.out.sl
      go_wp2
      go_ret
      exact ⟨rfl, HB.out⟩
end Go.Proofs.YtnoilogepkelaaaDoor
namespace Go.Proofs.YtnoilogepkelaaaDoor
set_option linter.unusedVariables false
set_option linter.unusedSimpArgs false
open Go Go.RowKit
namespace Sha
def nibB (c : BitVec 8) : BitVec 8 := BitVec.ofNat 8 (nib c.toNat).toNat
theorem nibB_bv (c : BitVec 8) : bv (nibB c) = nib c.toNat := by
  have h1 : 0 ≤ nib c.toNat ∧ nib c.toNat < 256 := by unfold nib; split; omega; split; omega; omega
  unfold nibB bv
  rw [BitVec.toNat_ofNat]
  omega
def ofVal (xs : List (BitVec 8)) (j : Nat) : BitVec 8 := nibB (xs.getD (2 * j) 0) <<< 4 ||| nibB (xs.getD (2 * j + 1) 0)
def ofOk (xs : List (BitVec 8)) (j : Nat) : Bool := decide (bv (nibB (xs.getD (2 * j) 0) ||| nibB (xs.getD (2 * j + 1) 0)) < 16)
/-- The digest of a word, if it is one's. -/
def of (xs : List (BitVec 8)) : Option (List (BitVec 8)) := if xs.length = 64 ∧ (List.range 32).all (ofOk xs) = true then some ((List.range 32).map (ofVal xs)) else none
theorem of_bad (xs : List (BitVec 8)) (j : Nat) (hj : j < 32) (h : ofOk xs j = false) : of xs = none := if_neg (fun hc => by have := List.all_eq_true.1 hc.2 j (List.mem_range.2 hj); rw [h] at this; cases this)
theorem of_short (xs : List (BitVec 8)) (h : xs.length ≠ 64) : of xs = none := if_neg (fun hc => h hc.1)
theorem of_good (xs : List (BitVec 8)) (h : xs.length = 64) (hk : ∀ j, j < 32 → ofOk xs j = true) : of xs = some (fill (ofVal xs) 0 32 32) := by rw [fill_all]; exact if_pos ⟨h, List.all_eq_true.2 fun j hj => hk j (List.mem_range.1 hj)⟩
def zero32 : List (BitVec 8) := List.replicate 32 0
end Sha
theorem nibble_b (c : BitVec 8) (w : World) : Calls Tryd.prog 71 #[.int .u8 (bv c)] w fun e w' => e = .returned (.int .u8 (bv (Sha.nibB c))) ∧ w' = w := by
  rw [Sha.nibB_bv]
  exact nibble_any c.toNat c.isLt w
theorem idx_str (xs : List (BitVec 8)) (j : Nat) (hj : j < xs.length) (W : World) : (Instr.index 9 (.string (strB xs)) (.int .i64 (j : Int))).run Tryd.prog W = .ok (.int .u8 (bv (xs.getD j 0))) W := by
  rw [run_index_string _ _ _ _ _ Tryd.underlying9, dif_pos ⟨by omega, by rw [strB_size]; omega⟩]
  have hd : (strB xs).data.toList = (xs.map bv).map (fun n => UInt8.ofNat n.toNat) := strOfNums_data _
  have hg : ∀ h, ((strB xs)[(j : Int).toNat]'h).toNat = (xs.getD j 0).toNat := fun h => by
    have h2 : (strB xs).data.toList[j]? = some (UInt8.ofNat (bv (xs.getD j 0)).toNat) := by
      rw [hd, List.map_map, List.getElem?_map, List.getElem?_eq_getElem hj]
      simp [List.getD, List.getElem?_eq_getElem hj]
    have h3 : (strB xs).data.toList[j]? = some ((strB xs)[(j : Int).toNat]'h) := by
      rw [Array.getElem?_toList, Array.getElem?_eq_getElem (show j < (strB xs).data.size from by have : (strB xs).size = xs.length := strB_size xs; show j < (strB xs).size; omega)]
      rfl
    rw [h3] at h2
    rw [Option.some.inj h2]
    have := (xs.getD j 0).isLt
    simp only [bv, Int.toNat_natCast, UInt8.toNat_ofNat']
    omega
  rw [hg]
  rfl
theorem yields_index_str {ops : Array Oper} {S : World → Prop} {o : Oper} {a : Act} (hw : Region.wanted o (yielded ops a.tmps) = true) (T : TypeId) (x y : Operand) (ho : o.op = .index T x y) (xs : List (BitVec 8)) (Z : ByteArray) (hZ : strB xs = Z)
    (hx : a.eval x = .string Z) (j : Nat) (hy : a.eval y = .int .i64 (j : Int)) (hj : j < xs.length) (c : BitVec 8) (hc : xs.getD j 0 = c) (hT : T = 9 := by rfl) : YieldsIf Tryd.prog ops S o (.int .u8 (bv c)) a :=
  .inl ⟨hw, fun w _ => by
    subst hT
    subst hZ
    subst hc
    unfold execOp
    simp only [ho, hx, hy, Sem.run_bind, Sem.run_pure, Result.andThen_ok, idx_str xs j hj]⟩
theorem u8_shl4 (x : BitVec 8) : bv x * (16 : Int) % (256 : Int) = bv (x <<< 4) := by
  unfold bv
  rw [BitVec.toNat_shiftLeft, Nat.shiftLeft_eq, show (2 : Nat) ^ 4 = 16 from rfl, show (2 : Nat) ^ 8 = 256 from rfl]
  omega

set_option maxRecDepth 100000 in
set_option maxHeartbeats 4000000 in
theorem of_any (xs : List (BitVec 8)) (hl : xs.length ≤ 1000000) (w : World) :
    Calls Tryd.prog 34 #[.string (strB xs)] w fun e w' => e = .returned (.tuple #[.agg (bytes ((Sha.of xs).getD (List.replicate 32 0))), .bool (Sha.of xs).isSome]) ∧ Below w.heap.size w w' := by
  have HIH := Lib.hid (fun (xs : List (BitVec 8)) (h : xs.length = 32) => (show (Tryd.prog.info? 32).map (·.size) = some (bytes xs).size by rw [bytes_size, h]; kernel_rfl))
  obtain ⟨X, hX, hBX, hXs, hX0⟩ := alloc1 w (.cells (bytes (List.replicate 32 0)) 32)
  have hX' : w.alloc (.cells #[.int .u8 0, .int .u8 0, .int .u8 0, .int .u8 0, .int .u8 0, .int .u8 0, .int .u8 0, .int .u8 0, .int .u8 0, .int .u8 0, .int .u8 0, .int .u8 0, .int .u8 0, .int .u8 0, .int .u8 0, .int .u8 0, .int .u8 0, .int .u8 0, .int .u8 0, .int .u8 0, .int .u8 0, .int .u8 0, .int .u8 0, .int .u8 0, .int .u8 0, .int .u8 0, .int .u8 0, .int .u8 0, .int .u8 0, .int .u8 0, .int .u8 0, .int .u8 0] 32) = X := hX
  have HX' := Lib.hid hX'
  have HX0 := Lib.hid hX0
  have HBX := Lib.hid hBX
  have hss := strB_size xs
  have HI0 := Lib.hid (HIH.out (List.replicate 32 0) (by simp))
  obtain ⟨S, hS⟩ : ∃ S, strB xs = S := ⟨_, rfl⟩
  rw [hS] at hss ⊢
  have HS := Lib.hid hS
  clear hX hX' hX0 hBX hS
  by_cases h64 : xs.length = 64
  · rw [h64] at hss
    go_enter Tryd.func34, Tryd.ntmps34
    go_upto_region 4 with fail
    rw [HX'.out]
    have HC : Hid (X.heap[w.heap.size]? = some (.cells (bytes (fill (Sha.ofVal xs) 0 32 0)) 32 (0, 0))) := by rw [fill_zero]; exact HX0.out
    have HB := HBX
    clear HX' hXs hss
    go_loopw [11] (fun s wr => ∃ i : Nat, i ≤ 32 ∧ s = .int .i64 i ∧ Hid (wr.heap[w.heap.size]? = some (.cells (bytes (fill (Sha.ofVal xs) 0 32 i)) 32 (0, 0))) ∧ Hid (Below w.heap.size w wr) ∧ Hid (∀ j, j < i → Sha.ofOk xs j = true)) (fun s _ => 32 - (intOf s).toNat)
    case atStart => exact ⟨0, by omega, rfl, HC, HB, Lib.hid (fun j hj => absurd hj (by omega))⟩
    case round =>
      clear HC HB HX0 HBX
      obtain ⟨i, hi, rfl, HC, HB, HK⟩ := hrel
      by_cases hlt : i < 32
      · obtain ⟨p, hp⟩ : ∃ p, 2 * i = p := ⟨_, rfl⟩
        obtain ⟨q, hq⟩ : ∃ q, p + 1 = q := ⟨_, rfl⟩
        have hp1 : 2 * (i : Int) = ((p : Nat) : Int) := by omega
        have hp2 : (p : Int) + 1 = ((q : Nat) : Int) := by omega
        have hpl : p < xs.length := by omega
        have hql : q < xs.length := by omega
        have hok : Sha.ofOk xs i = decide (bv (Sha.nibB (xs.getD p 0) ||| Sha.nibB (xs.getD q 0)) < 16) := by rw [Sha.ofOk, hp, hq]
        have hva : Sha.ofVal xs i = Sha.nibB (xs.getD p 0) <<< 4 ||| Sha.nibB (xs.getD q 0) := by rw [Sha.ofVal, hp, hq]
        have HOK := Lib.hid hok
        have HVA := Lib.hid hva
        have HWP := Lib.hid (show IntKind.i64.wrap (p : Int) = p by rw [IntKind.wrap_i64]; omega)
        have HWQ := Lib.hid (show IntKind.i64.wrap (q : Int) = q by rw [IntKind.wrap_i64]; omega)
        obtain ⟨cp, hcp⟩ : ∃ cp, xs.getD p 0 = cp := ⟨_, rfl⟩
        obtain ⟨cq, hcq⟩ : ∃ cq, xs.getD q 0 = cq := ⟨_, rfl⟩
        rw [hcp, hcq] at HOK HVA
        have HCP := Lib.hid hcp
        have HCQ := Lib.hid hcq
        clear hp hq hok hva hcp hcq
        go_upto_region 6 with fail
        go_cut [5, 6] (fun s5 s6 wx => s5 = .int .u8 (bv (Sha.nibB cp)) ∧ s6 = .int .u8 (bv (Sha.nibB cq)) ∧ ∃ m, wx = wr.drewN m)
        case first =>
          -- OF BEGIN
          refine wp_region_held_drew (S := fun w' => True) (by kernel_rfl) trivial (fun hHeld => ?_)
          refine wpAnyH_take (i := 0) (v := ?v1) rfl (by kernel_rfl) (by kernel_rfl) (by kernel_rfl) (fun _ _ _ h => h) (Or.inl ⟨by rfl, ?y1⟩) (by assumption) ?r1
          case y1 =>
            intro w' hSw
            go_split_ands
            go_simp
            try with_reducible rfl
          try simp only [List.getElem_toArray, List.getElem_cons_zero, List.getElem_cons_succ, Act.put, List.setIfInBounds_toArray, List.set_cons_zero, List.set_cons_succ]
          refine wpAnyH_take (i := 1) (v := ?v2) rfl (by kernel_rfl) (by kernel_rfl) (by kernel_rfl) (fun _ _ _ h => h) (Or.inl ⟨by rfl, ?y2⟩) (by assumption) ?r2
          case y2 =>
            intro w' hSw
            go_split_ands
            go_simp
            try with_reducible rfl
          try simp only [List.getElem_toArray, List.getElem_cons_zero, List.getElem_cons_succ, Act.put, List.setIfInBounds_toArray, List.set_cons_zero, List.set_cons_succ]
          refine wpAnyH_take (i := 2) (v := .int .i64 (p : Nat)) rfl (by kernel_rfl) (by kernel_rfl) (by kernel_rfl) (fun _ _ _ h => h) (Or.inl ⟨by rfl, ?y3⟩) (by assumption) ?r3
          case y3 =>
            intro w' hSw
            go_simp
            first | done | exact HWP.out
          try simp only [List.getElem_toArray, List.getElem_cons_zero, List.getElem_cons_succ, Act.put, List.setIfInBounds_toArray, List.set_cons_zero, List.set_cons_succ]
          refine wpAnyH_take (i := 3) rfl (by kernel_rfl) (by kernel_rfl) (by kernel_rfl) (fun _ _ _ h => h) (yields_index_str (by rfl) 9 (.tmp 14) (.tmp 16) rfl xs S HS.out rfl p rfl hpl _ HCP.out) (by assumption) ?_
          try simp only [List.getElem_toArray, List.getElem_cons_zero, List.getElem_cons_succ, Act.put, List.setIfInBounds_toArray, List.set_cons_zero, List.set_cons_succ]
          refine wpAnyH_take (i := 5) (v := ?v4) rfl (by kernel_rfl) (by kernel_rfl) (by kernel_rfl) (fun _ _ _ h => h) (Or.inl ⟨by rfl, ?y4⟩) (by assumption) ?r4
          case y4 =>
            intro w' hSw
            go_split_ands
            go_simp
            try with_reducible rfl
          try simp only [List.getElem_toArray, List.getElem_cons_zero, List.getElem_cons_succ, Act.put, List.setIfInBounds_toArray, List.set_cons_zero, List.set_cons_succ]
          refine wpAnyH_take (i := 6) (v := ?v5) rfl (by kernel_rfl) (by kernel_rfl) (by kernel_rfl) (fun _ _ _ h => h) (Or.inl ⟨by rfl, ?y5⟩) (by assumption) ?r5
          case y5 =>
            intro w' hSw
            go_split_ands
            go_simp
            try with_reducible rfl
          try simp only [List.getElem_toArray, List.getElem_cons_zero, List.getElem_cons_succ, Act.put, List.setIfInBounds_toArray, List.set_cons_zero, List.set_cons_succ]
          refine wpAnyH_take (i := 7) (v := .int .i64 (p : Nat)) rfl (by kernel_rfl) (by kernel_rfl) (by kernel_rfl) (fun _ _ _ h => h) (Or.inl ⟨by rfl, ?y6⟩) (by assumption) ?r6
          case y6 =>
            intro w' hSw
            go_simp
            first | done | exact HWP.out
          try simp only [List.getElem_toArray, List.getElem_cons_zero, List.getElem_cons_succ, Act.put, List.setIfInBounds_toArray, List.set_cons_zero, List.set_cons_succ]
          refine wpAnyH_take (i := 8) (v := .int .i64 (q : Nat)) rfl (by kernel_rfl) (by kernel_rfl) (by kernel_rfl) (fun _ _ _ h => h) (Or.inl ⟨by rfl, ?y7⟩) (by assumption) ?r7
          case y7 =>
            intro w' hSw
            go_simp
            first | done | exact HWQ.out
          try simp only [List.getElem_toArray, List.getElem_cons_zero, List.getElem_cons_succ, Act.put, List.setIfInBounds_toArray, List.set_cons_zero, List.set_cons_succ]
          refine wpAnyH_take (i := 9) rfl (by kernel_rfl) (by kernel_rfl) (by kernel_rfl) (fun _ _ _ h => h) (yields_index_str (by rfl) 9 (.tmp 19) (.tmp 22) rfl xs S HS.out rfl q rfl hql _ HCQ.out) (by assumption) ?_
          try simp only [List.getElem_toArray, List.getElem_cons_zero, List.getElem_cons_succ, Act.put, List.setIfInBounds_toArray, List.set_cons_zero, List.set_cons_succ]
          refine wpAnyH_ready (rs := [4]) (by kernel_rfl) (by simp) ?_
          refine AllReadyH.cons (i := 4) rfl (fun K hK => ?_) AllReadyH.nil
          go_simp
          go_at_call 71
          refine (nibble_b cp _).mono ?_
          rintro e wa ⟨rfl, rfl⟩
          refine hK.out _ _ (trivial) (fun hHeld' => ?_)
          clear hHeld hK K
          have hHeld := hHeld'
          clear hHeld'
          try simp only [List.getElem_toArray, List.getElem_cons_zero, List.getElem_cons_succ, Act.put, List.setIfInBounds_toArray, List.set_cons_zero, List.set_cons_succ]
          refine wpAnyH_ready (rs := [10]) (by kernel_rfl) (by simp) ?_
          refine AllReadyH.cons (i := 10) rfl (fun K hK => ?_) AllReadyH.nil
          go_simp
          go_at_call 71
          refine (nibble_b cq _).mono ?_
          rintro e wa ⟨rfl, rfl⟩
          refine hK.out _ _ (trivial) (fun hHeld' => ?_)
          clear hHeld hK K
          have hHeld := hHeld'
          clear hHeld'
          try simp only [List.getElem_toArray, List.getElem_cons_zero, List.getElem_cons_succ, Act.put, List.setIfInBounds_toArray, List.set_cons_zero, List.set_cons_succ]
          refine wpAnyH_take (i := 11) (v := ?v8) rfl (by kernel_rfl) (by kernel_rfl) (by kernel_rfl) (fun _ _ _ h => h) (Or.inl ⟨by rfl, ?y8⟩) (by assumption) ?r8
          case y8 =>
            intro w' hSw
            go_split_ands
            go_simp
            try with_reducible rfl
          try simp only [List.getElem_toArray, List.getElem_cons_zero, List.getElem_cons_succ, Act.put, List.setIfInBounds_toArray, List.set_cons_zero, List.set_cons_succ]
          refine wpAnyH_take (i := 12) (v := ?v9) rfl (by kernel_rfl) (by kernel_rfl) (by kernel_rfl) (fun _ _ _ h => h) (Or.inl ⟨by rfl, ?y9⟩) (by assumption) ?r9
          case y9 =>
            intro w' hSw
            go_split_ands
            go_simp
            try with_reducible rfl
          try simp only [List.getElem_toArray, List.getElem_cons_zero, List.getElem_cons_succ, Act.put, List.setIfInBounds_toArray, List.set_cons_zero, List.set_cons_succ]
          refine wpAnyH_done (by kernel_rfl) ?_ _
          go_wp2_with fail
          go_meet
          exact ⟨rfl, rfl, _, rfl⟩
        -- OF END
        case rest =>
          obtain ⟨rfl, rfl, m, rfl⟩ := hcut
          have hor := u8_or' (Sha.nibB cp) (Sha.nibB cq)
          have HB2 := Lib.hid (Below.drewN HB.out m)
          have HC2 : Hid ((wr.drewN m).heap[w.heap.size]? = some (.cells (bytes (fill (Sha.ofVal xs) 0 32 i)) 32 (0, 0))) := HC.out
          by_cases hok : Sha.ofOk xs i = true
          · have hlt16 : bv (Sha.nibB cp ||| Sha.nibB cq) < 16 := by have := HOK.out; rw [hok] at this; simpa using this.symm
            have hs4 := u8_shl4 (Sha.nibB cp)
            have hor2 := u8_or' (Sha.nibB cp <<< 4) (Sha.nibB cq)
            rw [← HVA.out] at hor2
            have cr := (cell_of_row (wr.drewN m) w.heap.size i _ _ _ HC2.out).trans (bytes_get? _ i (by rw [fill_length _ _ _ _ hi]; exact hlt))
            have fr := frozen_of_row (wr.drewN m) w.heap.size i _ _ HC2.out
            generalize (fill (Sha.ofVal xs) 0 32 i).getD i 0 = z at cr
            have hn := heap_setCell_same (wr.drewN m) w.heap.size i _ _ (.int .u8 (bv (Sha.ofVal xs i))) HC2.out
            rw [bytes_set, fill_set _ _ _ _ hlt] at hn
            have HN := Lib.hid hn
            have HBN := Lib.hid (HB2.out.setCell (p := ⟨w.heap.size, i, none⟩) (Nat.le_refl _) (.int .u8 (bv (Sha.ofVal xs i))))
            have HKN : Hid (∀ j, j < i + 1 → Sha.ofOk xs j = true) := fun j hj => by
              by_cases e : j = i
              · rw [e]; exact hok
              · exact HK.out j (by omega)
            clear hn hok
            generalize Sha.ofVal xs i = y at *
            generalize Sha.nibB cp = np at *
            generalize Sha.nibB cq = nq at *
            go_wp2
            exact ⟨⟨i + 1, by omega, by go_num, HN, HBN, HKN⟩, by simp [intOf]; omega⟩
          · have hof := Sha.of_bad xs i hlt (by simpa using hok)
            have hge16 : 16 ≤ bv (Sha.nibB cp ||| Sha.nibB cq) := by have := HOK.out; simp only [hok] at this; simpa using this.symm
            have HOF := Lib.hid hof
            have HSZ := Lib.hid (show (bytes (fill (Sha.ofVal xs) 0 32 i)).size = (bytes (List.replicate 32 0)).size by rw [bytes_size, bytes_size, fill_length _ _ _ _ hi]; rfl)
            have HZ := Lib.hid (setRow_heap _ w.heap.size _ (bytes (List.replicate 32 0)) _ _ HC2.out)
            have HBZ := Lib.hid (HB2.out.trans (((Kept.refl [w.heap.size] (wr.drewN m)).setRow (b := w.heap.size) (by simp) (bytes (List.replicate 32 0))).toBelow (B := w.heap.size) (by simp) HB2.out.size))
            clear hof hok
            generalize Sha.nibB cp = np at *
            generalize Sha.nibB cq = nq at *
            go_wp2_with (refine wpList_store_row rfl 32 (.tmp 2) (.tmp 29) rfl w.heap.size (bytes (List.replicate 32 0)) rfl rfl _ _ HC2.out HI0.out HSZ.out (bytes_one _) ?_)
            exact bodyPost_ret (results_row_tmp Tryd.results34 _ _ w.heap.size _ _ _ _ rfl HZ.out Tryd.underlying32 rfl HI0.out) rfl ⟨by rw [HOF.out]; rfl, HBZ.out⟩
      · obtain rfl : i = 32 := by omega
        have HOF := Lib.hid (Sha.of_good xs h64 HK.out)
        have HST : Hid (wr.setRow w.heap.size (bytes (fill (Sha.ofVal xs) 0 32 32)) = wr) := setRow_self _ _ _ _ _ HC.out
        have HIF := Lib.hid (HIH.out (fill (Sha.ofVal xs) 0 32 32) (fill_length _ _ _ _ (Nat.le_refl _)))
        go_wp2_with (first
          | (refine wpList_load_row rfl 32 (.tmp 2) rfl w.heap.size rfl _ _ _ _ HC.out Tryd.underlying32 rfl HIF.out ?_)
          | (refine wpList_store_row rfl 32 (.tmp 2) (.tmp 37) rfl w.heap.size (bytes (fill (Sha.ofVal xs) 0 32 32)) rfl rfl _ _ HC.out HIF.out rfl (bytes_one _) ?_; rw [HST.out]))
        exact bodyPost_ret (results_row_tmp Tryd.results34 _ _ w.heap.size _ _ _ _ rfl HC.out Tryd.underlying32 rfl HIF.out) rfl ⟨by rw [HOF.out]; rfl, HB.out⟩
  · rw [Sha.of_short xs h64]
    have hne : ¬ ((xs.length : Int) = 64) := by omega
    have HST : Hid (X.setRow w.heap.size (bytes (List.replicate 32 0)) = X) := setRow_self _ _ _ _ _ HX0.out
    go_enter Tryd.func34, Tryd.ntmps34
    go_upto_region 2 with fail
    rw [HX'.out]
    go_wp2_with (first
      | (refine wpList_load_row rfl 32 (.tmp 2) rfl w.heap.size rfl _ _ _ _ HX0.out Tryd.underlying32 rfl HI0.out ?_)
      | (refine wpList_store_row rfl 32 (.tmp 2) (.tmp 10) rfl w.heap.size (bytes (List.replicate 32 0)) rfl rfl _ _ HX0.out HI0.out rfl (bytes_one _) ?_; rw [HST.out]))
    exact bodyPost_ret (results_row_tmp Tryd.results34 _ _ w.heap.size _ _ _ _ rfl HX0.out Tryd.underlying32 rfl HI0.out) rfl ⟨rfl, HBX.out⟩
end Go.Proofs.YtnoilogepkelaaaDoor
namespace Go.Proofs.YtnoilogepkelaaaDoor
open Go
set_option maxRecDepth 100000 in
theorem sum_abc : Sha.sum [97, 98, 99] = [0xba, 0x78, 0x16, 0xbf, 0x8f, 0x01, 0xcf, 0xea, 0x41, 0x41, 0x40, 0xde, 0x5d, 0xae, 0x22, 0x23, 0xb0, 0x03, 0x61, 0xa3, 0x96, 0x17, 0x7a, 0x9c, 0xb4, 0x10, 0xff, 0x61, 0xf2, 0x00, 0x15, 0xad] := by decide +kernel
set_option maxRecDepth 100000 in
theorem sum_nil : Sha.sum [] = [0xe3, 0xb0, 0xc4, 0x42, 0x98, 0xfc, 0x1c, 0x14, 0x9a, 0xfb, 0xf4, 0xc8, 0x99, 0x6f, 0xb9, 0x24, 0x27, 0xae, 0x41, 0xe4, 0x64, 0x9b, 0x93, 0x4c, 0xa4, 0x95, 0x99, 0x1b, 0x78, 0x52, 0xb8, 0x55] := by decide +kernel
end Go.Proofs.YtnoilogepkelaaaDoor
namespace Go.Proofs.YtnoilogepkelaaaDoor
set_option linter.unusedVariables false
set_option linter.unusedSimpArgs false
open Go Go.RowKit
set_option maxRecDepth 100000 in
theorem conv_str (xs : List (BitVec 8)) (hl : xs.length ≤ 1000000) (w : World) : ∃ cap w', (convert 9 22 (.string (strB xs))).run Tryd.prog w = .ok (.slice (some ⟨w.heap.size, 0, none⟩) xs.length cap) w' ∧ SlB w' (.slice (some ⟨w.heap.size, 0, none⟩) xs.length cap) xs ∧ Below w.heap.size w w' := by
  have hr := Lib.run_convert_string_bytes (P := Tryd.prog) w 9 22 5 (strB xs) Tryd.underlying9 Tryd.underlying22 Tryd.underlying5
  rw [strB_size] at hr
  refine ⟨_, _, hr, .inr ⟨w.heap.size, 0, _, rfl, grownCap_ge w _ 0 _, grownCap_le_maxLen w _ 0 _ (by unfold maxLen; omega), by rw [Lib.bytesWorld_size]; omega, fun j hj => ?_⟩, ⟨rfl, rfl, rfl, by rw [Lib.bytesWorld_size]; omega, fun k hk => Lib.bytesWorld_at_old w _ _ k hk⟩⟩
  rw [Nat.zero_add, Lib.bytesWorld_cell w _ _ j (by rw [strB_size]; exact hj)]
  have hd : (strB xs).data.toList = (xs.map bv).map (fun n => UInt8.ofNat n.toNat) := strOfNums_data _
  rw [hd, List.map_map, List.getD, List.getElem?_map, List.getElem?_eq_getElem hj]
  simp only [Option.map_some, Option.getD_some, List.getD, List.getElem?_eq_getElem hj, byteV, bv, Function.comp, Int.toNat_natCast]
  have := (xs[j]).isLt
  congr 2
  simp only [UInt8.toNat_ofNat']
  omega

set_option maxRecDepth 100000 in
theorem word_any (xs : List (BitVec 8)) (hl : xs.length ≤ 1000000) (w : World) (hG : Glob w) :
    Calls Tryd.prog 39 #[.string (strB xs)] w fun e w' => e = .returned (.string (strB (Sha.text (Sha.sum xs)))) ∧ Below w.heap.size w w' := by
  obtain ⟨cap, W, hc, hsl, hb⟩ := conv_str xs hl w
  have HSM := Lib.hid (sum_any xs _ W hsl (by omega) (hG.below hb hG.size))
  have HTX := Lib.hid (fun w2 => text_any (Sha.sum xs) (Sha.sum_length xs) w2)
  have HB := Lib.hid hb
  generalize strB xs = S at hc ⊢
  clear hsl hb hG
  go_enter Tryd.func39, Tryd.ntmps39
  go_wp2_with (first
    | (go_at_call 27; refine HSM.out.mono ?_; rintro e w2 ⟨rfl, hb2⟩; have HB2 := Lib.hid (HB.out.trans (hb2.mono HB.out.size)); clear hb2)
    | (go_at_call 36; refine (HTX.out _).mono ?_; rintro e w3 ⟨rfl, hb3⟩; have HB3 := Lib.hid (HB2.out.trans (hb3.mono HB2.out.size)); clear hb3))
  go_ret
  exact ⟨rfl, HB3.out⟩

theorem strB_abc : (.string { data := #[97, 98, 99] } : Value) = .string (strB [97, 98, 99]) := by kernel_rfl
theorem word_abc : (.string { data := #[98, 97, 55, 56, 49, 54, 98, 102, 56, 102, 48, 49, 99, 102, 101, 97, 52, 49, 52, 49, 52, 48, 100, 101, 53, 100, 97, 101, 50, 50, 50, 51, 98, 48, 48, 51, 54, 49, 97, 51, 57, 54, 49, 55, 55, 97, 57, 99, 98, 52, 49, 48, 102, 102, 54, 49, 102, 50, 48, 48, 49, 53, 97, 100] } : Value) = .string (strB (Sha.text (Sha.sum [97, 98, 99]))) := by
  rw [sum_abc]
  kernel_rfl

set_option maxRecDepth 100000 in
theorem awake_any (w : World) (hG : Glob w) : Calls Tryd.prog 23 #[] w fun e w' => e = .returned (.bool true) ∧ Below w.heap.size w w' := by
  have HWD := Lib.hid (word_any [97, 98, 99] (by simp) w hG)
  have HWE := Lib.hid word_abc
  rw [← strB_abc] at HWD
  have HST := Lib.hid (fun W (hB : Below w.heap.size w W) => start_any W (hG.below hB hG.size))
  have HBH := Lib.hid (fun W => behind_any 55 (by omega) W)
  have hbl : (Sha.behind 55).length = 9 := by rw [Sha.behind_length]; rfl
  have hix := fun (W : World) => run_index_row (P := Tryd.prog) (T := 27) (E := 25) Tryd.underlying27 Tryd.underlying25 rfl (by kernel_rfl) (words Sha.starts) (by kernel_rfl) 0 (by omega) (by omega) W
  have hs0 : (words Sha.starts)[0]?.getD undef = .int .u32 1779033703 := by kernel_rfl
  clear hG
  obtain ⟨Z, hZ⟩ : ∃ Z, Sha.text (Sha.sum [97, 98, 99]) = Z := ⟨_, rfl⟩
  rw [hZ] at HWD HWE
  go_enter Tryd.func23, Tryd.ntmps23
  go_wp2_with (first
    | (go_at_call 39; refine HWD.out.mono ?_; rintro e w1 ⟨rfl, hb1⟩; rw [← HWE.out]; have HB1 := Lib.hid hb1; clear hb1)
    | (go_at_call 25; refine (HST.out _ HB1.out).mono ?_; rintro e w2 ⟨rfl, hb2⟩; have HB2 := Lib.hid (HB1.out.trans (hb2.mono HB1.out.size)); clear hb2)
    | (go_at_call 24; refine (HBH.out _).mono ?_; rintro e w3 ⟨v3, rfl, ho3, hb3⟩; obtain ⟨a3, cap3, rfl⟩ := ho3.sl.len; have HB3 := Lib.hid (HB2.out.trans (hb3.mono HB2.out.size)); clear hb3 ho3; rw [hbl]))
  go_ret
  exact ⟨rfl, HB3.out⟩
end Go.Proofs.YtnoilogepkelaaaDoor
namespace Go.Proofs.YtnoilogepkelaaaDoor
set_option linter.unusedVariables false
set_option linter.unusedSimpArgs false
open Go Go.RowKit Go.WideShapes Go.ChangeShapes
theorem laid_ints {H : Type} {enc : TypeId × Value → H} {P : Program} {w : World} {sp : Nat → Bool} {held : Bool} {fuel n : Nat} {t e : TypeId} {k : IntKind} {cs : List Value} {q : List MemPlace} (ns : List Int) (ht : P.underlying t = some (.array n e)) (he : P.underlying e = some (.int k))
    (hc : P.cellsOf e = 1) (hct : P.cellsOf t = n) (h : DataW.trod enc P w 0 sp held fuel t cs = some (.agg (ns.map fun i => .lit (.int k i)), q)) : cs = ns.map (Value.int k) := by
  obtain ⟨ys, m, _, hx, hl, hyl, hf⟩ := DataW.trod_array ht h
  have h1 := (Prod.mk.inj hx).1
  have h2 : (ns.map fun i => (DataW.lit (.int k i) : DataW H)) = ys.map (·.1) := by injection h1
  have hnl : ns.length = n := by have := congrArg List.length h2; simpa [hyl] using this
  apply List.ext_getElem?
  intro i
  by_cases hi : i < n
  · have hh := hf i hi
    rw [hc, Nat.mul_one] at hh
    obtain ⟨y, hy⟩ : ∃ y, ys[i]? = some y := ⟨_, List.getElem?_eq_getElem (by omega)⟩
    obtain ⟨a, ha, hya, _⟩ := DataW.trod_int he (hh.trans hy)
    have e1 : cs[i]? = some (.int k a) := by have := congrArg (fun l => l[0]?) ha; simpa [List.getElem?_take, List.getElem?_drop] using this
    have e2 := congrArg (fun l => l[i]?) h2
    simp only [List.getElem?_map, hy, Option.map_some, hya] at e2
    rw [e1, List.getElem?_map]
    cases hn : ns[i]? with
    | none => rw [hn] at e2; cases e2
    | some b =>
      rw [hn] at e2
      simp only [Option.map_some, Option.some.injEq] at e2
      have : b = a := by injection e2 with e3; injection e3
      rw [this]; rfl
  · rw [List.getElem?_eq_none (by omega), List.getElem?_eq_none (by simp; omega)]
theorem starts_ints : (Rows.laid_redwax_sha_starts : DataW Unit) = .agg ((Sha.starts.map wv).map fun i => .lit (.int .u32 i)) := by kernel_rfl
set_option maxRecDepth 100000 in
theorem adds_ints : (Rows.laid_redwax_sha_adds : DataW Unit) = .agg ((Sha.adds.map wv).map fun i => .lit (.int .u32 i)) := by kernel_rfl
theorem g_starts : Tryd.prog.globalNamed "redwax/sha.starts" = some 0 := by kernel_rfl
theorem g_adds : Tryd.prog.globalNamed "redwax/sha.adds" = some 1 := by kernel_rfl
theorem t_starts : (Tryd.prog.globals[0]?).map (·.type) = some 27 := by kernel_rfl
theorem t_adds : (Tryd.prog.globals[1]?).map (·.type) = some 84 := by kernel_rfl
theorem words_ints (xs : List (BitVec 32)) {cs : Array Value} (h : cs.toList = (xs.map wv).map (Value.int .u32)) : cs = words xs := by
  apply Array.toList_inj.1
  rw [h, words, List.map_map]
  rfl
theorem row_of_var {P : Program} {W : World} {n : String} {g : Nat} {cs : Array Value} (hg : P.globalNamed n = some g) (h : W.var? P n = some cs) : ∃ t fr, W.heap[g]? = some (.cells cs t fr) := by
  unfold World.var? at h
  rw [hg] at h
  simp only [Option.bind_some] at h
  split at h
  · rename_i cs' t fr he
    obtain rfl := Option.some.inj h
    exact ⟨_, _, he⟩
  · cases h
theorem vars_of_laid {W : World} (h : laidMet Tryd.prog [("redwax/sha.starts", Rows.laid_redwax_sha_starts), ("redwax/sha.adds", Rows.laid_redwax_sha_adds)] W) :
    W.var? Tryd.prog "redwax/sha.starts" = some (words Sha.starts) ∧ W.var? Tryd.prog "redwax/sha.adds" = some (words Sha.adds) := by
  obtain ⟨ps, ⟨g, t, cs, fuel, p, q, hg, ht, hvar, hd, ⟨g2, t2, cs2, fuel2, p2, q2, hg2, ht2, hvar2, hd2, _, _⟩, _⟩, _⟩ := h
  obtain rfl := Option.some.inj (g_starts.symm.trans hg)
  obtain rfl := Option.some.inj (t_starts.symm.trans ht)
  obtain rfl := Option.some.inj (g_adds.symm.trans hg2)
  obtain rfl := Option.some.inj (t_adds.symm.trans ht2)
  rw [starts_ints] at hd
  rw [adds_ints] at hd2
  have e1 := words_ints Sha.starts (laid_ints _ Tryd.underlying27 Tryd.underlying25 (by kernel_rfl) (by kernel_rfl) hd)
  have e2 := words_ints Sha.adds (laid_ints _ Tryd.underlying84 Tryd.underlying25 (by kernel_rfl) (by kernel_rfl) hd2)
  exact ⟨e1 ▸ hvar, e2 ▸ hvar2⟩
theorem glob_of_vars {W : World} (h : W.var? Tryd.prog "redwax/sha.starts" = some (words Sha.starts) ∧ W.var? Tryd.prog "redwax/sha.adds" = some (words Sha.adds)) : Glob W :=
  ⟨row_of_var g_starts h.1, row_of_var g_adds h.2⟩

def putCells (c : Array Value) : Obj → Obj
  | .cells _ t frozen => .cells c t frozen
  | o => o
noncomputable def laidWorld (os : Os) : World :=
  { World.holding Tryd.prog os ⟨#[], #[], []⟩ with heap := ((World.holding Tryd.prog os ⟨#[], #[], []⟩).heap.modify 0 (putCells (words Sha.starts))).modify 1 (putCells (words Sha.adds)) }
theorem laidWorld_row0 (os : Os) (args : Array Value) : ((laidWorld os).forCall (fun _ _ => 0) ⟨#[], args, []⟩).memory.heap[0]? = some (.cells (words Sha.starts) 27 (0, 0)) := by kernel_rfl
theorem laidWorld_row1 (os : Os) (args : Array Value) : ((laidWorld os).forCall (fun _ _ => 0) ⟨#[], args, []⟩).memory.heap[1]? = some (.cells (words Sha.adds) 84 (0, 0)) := by kernel_rfl
abbrev Ls : List (String × DataW Unit) := [("redwax/sha.starts", Rows.laid_redwax_sha_starts), ("redwax/sha.adds", Rows.laid_redwax_sha_adds)]
theorem words_no_iface (xs : List (BitVec 32)) (j : Nat) (u : TypeId) (v : Value) (h : (words xs)[j]? = some (.iface u v)) : False := by
  by_cases hj : j < xs.length
  · rw [words_get? xs j hj] at h; cases h
  · rw [Array.getElem?_eq_none (by rw [words_size]; omega)] at h; cases h
set_option maxRecDepth 100000 in
theorem laid_world (os : Os) (args : Array Value) : laidMet Tryd.prog Ls ((laidWorld os).forCall (fun _ _ => 0) ⟨#[], args, []⟩).memory := by
  refine ⟨_, ⟨0, 27, words Sha.starts, 8, [], _, g_starts, t_starts, by kernel_rfl, by kernel_rfl, ⟨1, 84, words Sha.adds, 8, [], [], g_adds, t_adds, by kernel_rfl, by kernel_rfl, rfl, rfl⟩, rfl⟩, by decide +kernel, fun b off h => ?_⟩
  have hb : b = 0 ∨ b = 1 := by
    simp only [List.mem_append, MemPlace.row, List.append_nil] at h
    rcases h with h | h
    all_goals
      simp at h
      omega
  rcases hb with rfl | rfl
  · refine ⟨⟨_, _, laidWorld_row0 os args⟩, fun u v hc => ?_⟩
    rw [cell_of_row _ 0 off _ _ _ (laidWorld_row0 os args)] at hc
    exact (words_no_iface Sha.starts off u v hc).elim
  · refine ⟨⟨_, _, laidWorld_row1 os args⟩, fun u v hc => ?_⟩
    rw [cell_of_row _ 1 off _ _ _ (laidWorld_row1 os args)] at hc
    exact (words_no_iface Sha.adds off u v hc).elim
end Go.Proofs.YtnoilogepkelaaaDoor
namespace Go.Proofs.YtnoilogepkelaaaDoor.Sha
set_option linter.unusedVariables false
set_option linter.unusedSimpArgs false
set_option maxRecDepth 100000 in
theorem byte_back : ∀ n, n < 256 → nibB (dg (n / 16)) <<< 4 ||| nibB (dg (n % 16)) = BitVec.ofNat 8 n := by decide +kernel
set_option maxRecDepth 100000 in
theorem byte_ok : ∀ n, n < 256 → bv (nibB (dg (n / 16)) ||| nibB (dg (n % 16))) < 16 := by decide +kernel
set_option maxRecDepth 100000 in
theorem dg_nib : ∀ n, n < 256 → (nibB (BitVec.ofNat 8 n)).toNat < 16 → dg (nibB (BitVec.ofNat 8 n)).toNat = BitVec.ofNat 8 n := by decide +kernel
set_option maxRecDepth 100000 in
theorem two_parts : ∀ p, p < 16 → ∀ q, q < 16 → (BitVec.ofNat 8 p <<< 4 ||| BitVec.ofNat 8 q).toNat / 16 = p ∧ (BitVec.ofNat 8 p <<< 4 ||| BitVec.ofNat 8 q).toNat % 16 = q := by decide +kernel
theorem text_cons (c : BitVec 8) (h : List (BitVec 8)) : text (c :: h) = dg (c.toNat / 16) :: dg (c.toNat % 16) :: text h := rfl
theorem text_at : ∀ (h : List (BitVec 8)) (j : Nat), j < h.length → (text h).getD (2 * j) 0 = dg ((h.getD j 0).toNat / 16) ∧ (text h).getD (2 * j + 1) 0 = dg ((h.getD j 0).toNat % 16)
  | [], j, hj => absurd hj (by simp)
  | c :: h, 0, _ => ⟨rfl, rfl⟩
  | c :: h, j + 1, hj => by
    have ih := text_at h j (by simpa using hj)
    rw [text_cons, show 2 * (j + 1) = 2 * j + 1 + 1 by omega]
    exact ih
theorem of_text (h : List (BitVec 8)) (hl : h.length = 32) : of (text h) = some h := by
  have hv : ∀ j, j < 32 → ofVal (text h) j = h.getD j 0 ∧ ofOk (text h) j = true := fun j hj => by
    have ha := text_at h j (by omega)
    have hb := (h.getD j 0).isLt
    refine ⟨?_, ?_⟩
    · rw [ofVal, ha.1, ha.2, byte_back _ hb, BitVec.ofNat_toNat, BitVec.setWidth_eq]
    · rw [ofOk, ha.1, ha.2]; exact decide_eq_true (byte_ok _ hb)
  rw [of_good (text h) (by rw [text_length]; omega) (fun j hj => (hv j hj).2), fill_all]
  congr 1
  apply List.ext_getElem?
  intro j
  by_cases hj : j < 32
  · rw [List.getElem?_map, List.getElem?_range hj, Option.map_some, (hv j hj).1, List.getD, List.getElem?_eq_getElem (by omega)]
    rfl
  · rw [List.getElem?_eq_none (by simp; omega), List.getElem?_eq_none (by omega)]
theorem text_of (xs v : List (BitVec 8)) (h : of xs = some v) : v.length = 32 ∧ text v = xs := by
  have hc : xs.length = 64 ∧ (List.range 32).all (ofOk xs) = true := by
    unfold of at h
    split at h
    · assumption
    · cases h
  have hk := fun j hj => List.all_eq_true.1 hc.2 j (List.mem_range.2 hj)
  rw [of_good xs hc.1 hk, fill_all] at h
  obtain rfl := Option.some.inj h
  have hl : ((List.range 32).map (ofVal xs)).length = 32 := by simp
  refine ⟨hl, ?_⟩
  have hget : ∀ j, j < 32 → ((List.range 32).map (ofVal xs)).getD j 0 = ofVal xs j := fun j hj => by simp [List.getD, hj]
  have hpair : ∀ j, j < 32 → (text ((List.range 32).map (ofVal xs))).getD (2 * j) 0 = xs.getD (2 * j) 0 ∧ (text ((List.range 32).map (ofVal xs))).getD (2 * j + 1) 0 = xs.getD (2 * j + 1) 0 := fun j hj => by
    have ha := text_at _ j (by rw [hl]; exact hj)
    rw [hget j hj] at ha
    have hok := hk j hj
    rw [ofOk] at hok
    have h16 := of_decide_eq_true hok
    rw [ofVal] at ha
    rw [ha.1, ha.2]
    clear ha hok
    generalize xs.getD (2 * j) 0 = a at *
    generalize xs.getD (2 * j + 1) 0 = b at *
    have h17 : (nibB a ||| nibB b).toNat < 16 := by unfold bv at h16; omega
    rw [BitVec.toNat_or] at h17
    have ha16 : (nibB a).toNat < 16 := Nat.lt_of_le_of_lt Nat.left_le_or h17
    have hb16 : (nibB b).toNat < 16 := Nat.lt_of_le_of_lt Nat.right_le_or h17
    have ea : BitVec.ofNat 8 a.toNat = a := by rw [BitVec.ofNat_toNat, BitVec.setWidth_eq]
    have eb : BitVec.ofNat 8 b.toNat = b := by rw [BitVec.ofNat_toNat, BitVec.setWidth_eq]
    have en : BitVec.ofNat 8 (nibB a).toNat = nibB a := by rw [BitVec.ofNat_toNat, BitVec.setWidth_eq]
    have em : BitVec.ofNat 8 (nibB b).toNat = nibB b := by rw [BitVec.ofNat_toNat, BitVec.setWidth_eq]
    have h2 := two_parts _ ha16 _ hb16
    rw [en, em] at h2
    have da := dg_nib a.toNat a.isLt
    have db := dg_nib b.toNat b.isLt
    rw [ea] at da
    rw [eb] at db
    rw [h2.1, h2.2]
    exact ⟨da ha16, db hb16⟩
  apply List.ext_getElem?
  intro j
  by_cases hj : j < 64
  · have hg : (text ((List.range 32).map (ofVal xs))).getD j 0 = xs.getD j 0 := by
      have hp := hpair (j / 2) (by omega)
      by_cases e : j % 2 = 0
      · rw [show 2 * (j / 2) = j by omega] at hp; exact hp.1
      · rw [show 2 * (j / 2) + 1 = j by omega] at hp; exact hp.2
    have h1 : j < (text ((List.range 32).map (ofVal xs))).length := by rw [text_length, hl]; omega
    have h2 : j < xs.length := by omega
    rw [List.getD, List.getD, List.getElem?_eq_getElem h1, List.getElem?_eq_getElem h2] at hg
    rw [List.getElem?_eq_getElem h1, List.getElem?_eq_getElem h2]
    exact congrArg some hg
  · rw [List.getElem?_eq_none (by rw [text_length, hl]; omega), List.getElem?_eq_none (by omega)]
end Go.Proofs.YtnoilogepkelaaaDoor.Sha
namespace Go.Proofs.YtnoilogepkelaaaDoor
open Go
theorem strB_all (s : ByteArray) : ∃ xs, s = strB xs := ⟨s.data.toList.map UInt8.toBitVec, by
  apply ByteArray.ext
  apply Array.toList_inj.1
  have hd : (strB (s.data.toList.map UInt8.toBitVec)).data.toList = ((s.data.toList.map UInt8.toBitVec).map bv).map (fun n => UInt8.ofNat n.toNat) := strOfNums_data _
  rw [hd, List.map_map, List.map_map]
  refine (List.map_id _).symm.trans (List.map_congr_left fun x _ => ?_)
  simp [bv]⟩
end Go.Proofs.YtnoilogepkelaaaDoor
namespace Go.Proofs.YtnoilogepkelaaaDoor
set_option linter.unusedVariables false
set_option linter.unusedSimpArgs false
open Go Go.RowKit
theorem wpList_load_row_w {P : Program} {ops : Array Oper} {rest : List Oper} {o : Oper} {a : Act} {w : World} {Q : Exit → Act → World → Prop} (hw : Region.wanted o (yielded ops a.tmps) = true) (ty : TypeId) (x : Operand) (ho : o.op = .load ty x)
    (g : Nat) (hx : a.eval x = .pointer (some ⟨g, 0, none⟩)) (t : TypeId) (cs : Array Value) (fr : Nat × Nat) (d : TypeDesc) (hg : w.heap[g]? = some (.cells cs t fr))
    (hu : P.underlying ty = some d) (hd : (match d with | .struct _ | .array _ _ => true | _ => false) = true) (hi : (P.info? ty).map (·.size) = some cs.size)
    (h : wpList P ops Q rest (a.put o.dst (.agg cs)) w) : wpList P ops Q (o :: rest) a w :=
  BigFrame.wpList_want hw fun K hK => wp_load_row ty x ho g hx t cs fr d hg hu hd hi (hK _ _ h)
theorem run_eq_hash {T n : Nat} (hT : Tryd.prog.underlying T = some (.array n 5)) (xs : List (BitVec 8)) (h : xs.length = n) (w : World) : (Op.equalIn 10000 T (.agg (bytes xs)) (.agg (bytes xs))).run Tryd.prog w = .ok true w := by
  have e : bytes xs = ints .u8 (xs.map bv) := by simp [bytes, ints, List.map_map, Function.comp_def]
  rw [e, run_equalIn_ints (P := Tryd.prog) (T := T) (E := 5) (n := n) (k := .u8) hT Tryd.underlying5 (by kernel_rfl) _ _ (by simpa using h) (by simpa using h) w]
  simp
theorem run_eql_hash {T n : Nat} (hT : Tryd.prog.underlying T = some (.array n 5)) (hG : Tryd.prog.eqGuardType Tryd.prog.depth T = false) (xs : List (BitVec 8)) (h : xs.length = n) (w : World) :
    (∀ x y, (eqGuard .eql T x y (.agg (bytes xs)) (.agg (bytes xs))).run Tryd.prog w = .ok () w) ∧ (binOp .eql T (.agg (bytes xs)) (.agg (bytes xs))).run Tryd.prog w = .ok (.bool true) w := by
  refine ⟨fun x y => run_eqGuard_agg w .eql T x y _ _ hG, ?_⟩
  have e : (Op.equal T (.agg (bytes xs)) (.agg (bytes xs))).run Tryd.prog w = .ok true w := run_eq_hash hT xs h w
  show ((do pure (.bool (← Op.equal T (.agg (bytes xs)) (.agg (bytes xs)))) : Sem Value)).run Tryd.prog w = _
  rw [Sem.run_bind, e]
  rfl

set_option maxRecDepth 100000 in
set_option maxHeartbeats 4000000 in
theorem law_shaTurned (h : List (BitVec 8)) (hh : h.length = 32) (xs : List (BitVec 8)) (w : World) (hG : Glob w) :
    Calls Tryd.prog 8 #[.agg (bytes h), .string (strB xs)] w fun e w' => e = .returned (.bool true) ∧ Below w.heap.size w w' := by
  have hss := strB_size xs
  have HAW := Lib.hid (fun W (hB : Below w.heap.size w W) => awake_any W (hG.below hB hG.size))
  have HIH := Lib.hid (fun (xs : List (BitVec 8)) (h : xs.length = 32) => (show (Tryd.prog.info? 32).map (·.size) = some (bytes xs).size by rw [bytes_size, h]; kernel_rfl))
  obtain ⟨X, hX, hBX, hXs, hX0⟩ := alloc1 w (.cells (bytes h) 32)
  have HIB := Lib.hid (HIH.out h hh)
  have HTX := Lib.hid (fun W => text_any h hh W)
  have HOF := Lib.hid (fun W => of_any (Sha.text h) (by rw [Sha.text_length]; omega) W)
  rw [Sha.of_text h hh] at HOF
  have HEQ := Lib.hid (fun W => run_eql_hash (n := 32) Tryd.underlying32 (by kernel_rfl) h hh W)
  obtain ⟨bb, hbb⟩ : ∃ bb, bytes h = bb := ⟨_, rfl⟩
  have HOF' : Hid (∀ W, Calls Tryd.prog 34 #[.string (strB (Sha.text h))] W fun e w' => e = .returned (.tuple #[.agg bb, .bool true]) ∧ Below W.heap.size W w') := by rw [← hbb]; exact HOF
  rw [hbb] at hX hX0 HIB HTX HEQ ⊢
  have HBZ := Lib.hid (show bb.size = 32 by rw [← hbb, bytes_size, hh])
  have HB1C := Lib.hid (show bb.all (·.oneCell') = true by rw [← hbb]; exact bytes_one h)
  have HX0 := Lib.hid hX0
  have HB0 := Lib.hid hBX
  have HX := Lib.hid hX
  have HSX := Lib.hid hXs
  clear hX hX0 hBX hXs hG HOF
  by_cases hlt : 3000 < xs.length
  · generalize strB xs = S at *
    have hlt' : (3000 : Int) < S.size := by omega
    go_enter Tryd.func8, Tryd.ntmps8
    go_upto_region 1 with fail
    rw [HX.out]
    go_wp2_with (go_at_call 23; refine (HAW.out _ HB0.out).mono ?_; rintro e w1 ⟨rfl, hb1⟩; have HB1 := Lib.hid (HB0.out.trans (hb1.mono HB0.out.size)); clear hb1)
    go_ret
    exact ⟨rfl, HB1.out⟩
  · have HOX := Lib.hid (fun W => of_any xs (by omega) W)
    obtain ⟨S, hS⟩ : ∃ S, strB xs = S := ⟨_, rfl⟩
    rw [hS] at hss HOX ⊢
    have HS := Lib.hid hS
    clear hS
    have hlt' : ¬ (3000 : Int) < S.size := by omega
    obtain ⟨T, hT⟩ : ∃ T, strB (Sha.text h) = T := ⟨_, rfl⟩
    rw [hT] at HTX HOF'
    clear hT
    go_enter Tryd.func8, Tryd.ntmps8
    go_upto_region 3 with fail
    rw [HX.out]
    go_upto_region 4 with (first
      | (refine wpList_load_row rfl 32 (.tmp 2) rfl w.heap.size rfl _ _ _ _ HX0.out Tryd.underlying32 rfl HIB.out ?_)
      | (go_at_call 36; refine (HTX.out _).mono ?_; rintro e w1 ⟨rfl, hb1⟩; have HB1 := Lib.hid (hb1); clear hb1)
      | (go_at_call 34; refine (HOF'.out _).mono ?_; rintro e w2 ⟨rfl, hb2⟩; have HB2 := Lib.hid (HB1.out.trans (hb2.mono HB1.out.size)); clear hb2)
      | (refine wpList_store_row rfl 32 (.tmp 5) (.tmp 17) rfl _ _ rfl rfl _ _ (heap_alloc_new _ _) HIB.out (by rw [HBZ.out]; rfl) HB1C.out ?_; rw [World.setRow_alloc_new]))
    obtain ⟨Y, hY, hBY, hYs, hY0⟩ := alloc1 w2 (.cells bb 32)
    rw [hY]
    have hsz2 := HB2.out.size
    have hsx := HSX.out
    have HXY := Lib.hid ((hBY.block w.heap.size (by omega)).trans ((HB2.out.block w.heap.size (by omega)).trans HX0.out))
    have HY0 := Lib.hid hY0
    have HBY := Lib.hid (HB0.out.trans ((HB2.out.trans (hBY.mono hsz2)).mono HB0.out.size))
    have HYS := Lib.hid (show w.heap.size < w2.heap.size ∧ w2.heap.size < Y.heap.size by omega)
    obtain ⟨O, hO⟩ : ∃ O, w2.heap.size = O := ⟨_, rfl⟩
    rw [hO] at HY0 HYS ⊢
    clear hY hBY hYs hY0 hsz2 hsx hO
    obtain ⟨v, ok, hv, hok⟩ : ∃ v ok, (Sha.of xs).getD (List.replicate 32 0) = v ∧ (Sha.of xs).isSome = ok := ⟨_, _, rfl, rfl⟩
    rw [hv, hok] at HOX
    have hvl : v.length = 32 := by
      rw [← hv]
      cases ho : Sha.of xs with
      | none => simp
      | some u => exact (Sha.text_of xs u ho).1
    have HIV := Lib.hid (HIH.out v hvl)
    have HVL := Lib.hid hvl
    go_upto_region 5 with (first
      | (go_at_call 34; refine (HOX.out _).mono ?_; rintro e w3 ⟨rfl, hb3⟩; have HB3 := Lib.hid hb3; clear hb3)
      | (refine wpList_store_row rfl 32 (.tmp 7) (.tmp 22) rfl _ _ rfl rfl _ _ (heap_alloc_new _ _) HIV.out (by rw [bytes_size, HVL.out]; rfl) (bytes_one v) ?_; rw [World.setRow_alloc_new]))
    obtain ⟨Z, hZ, hBZ, hZs, hZ0⟩ := alloc1 w3 (.cells (bytes v) 32)
    rw [hZ]
    have hsz3 := HB3.out.size
    have hys := HYS.out
    have HXZ := Lib.hid ((hBZ.block w.heap.size (by omega)).trans ((HB3.out.block w.heap.size (by omega)).trans HXY.out))
    have HYZ := Lib.hid ((hBZ.block O (by omega)).trans ((HB3.out.block O (by omega)).trans HY0.out))
    have HZ0 := Lib.hid hZ0
    have HBZ2 := Lib.hid (HBY.out.trans ((HB3.out.trans (hBZ.mono hsz3)).mono HBY.out.size))
    obtain ⟨O2, hO2⟩ : ∃ O2, w3.heap.size = O2 := ⟨_, rfl⟩
    rw [hO2] at HZ0 ⊢
    clear hZ hBZ hZs hZ0 hsz3 hys hO2
    have hq1 := fun x y W => (HEQ.out W).1 x y
    have hq2 := fun W => (HEQ.out W).2
    have HTV := Lib.hid (fun W => text_any v hvl W)
    cases ok with
    | true =>
      have htv : strB (Sha.text v) = S := by
        rw [← HS.out]
        cases ho : Sha.of xs with
        | none => rw [ho] at hok; cases hok
        | some u => rw [ho] at hv; rw [← hv]; exact congrArg strB (Sha.text_of xs u ho).2
      rw [htv] at HTV
      clear htv hv hok hvl
      go_wp2_with (first
        | (refine wpList_load_row_w (by rfl) 32 (.tmp 5) rfl O rfl _ _ _ _ HYZ.out Tryd.underlying32 rfl HIB.out ?_)
        | (refine wpList_load_row_w (by rfl) 32 (.tmp 2) rfl w.heap.size rfl _ _ _ _ HXZ.out Tryd.underlying32 rfl HIB.out ?_)
        | (refine wpList_load_row_w (by rfl) 32 (.tmp 7) rfl O2 rfl _ _ _ _ HZ0.out Tryd.underlying32 rfl HIV.out ?_)
        | (go_at_call 36; refine (HTV.out _).mono ?_; rintro e w4 ⟨rfl, hb4⟩; have HB4 := Lib.hid (HBZ2.out.trans (hb4.mono HBZ2.out.size)); clear hb4)
        | (go_at_call 23; refine (HAW.out _ HB4.out).mono ?_; rintro e w5 ⟨rfl, hb5⟩; have HB5 := Lib.hid (HB4.out.trans (hb5.mono HB4.out.size)); clear hb5))
      go_ret
      exact ⟨rfl, HB5.out⟩
    | false =>
      have hvz : v = List.replicate 32 0 := by
        cases ho : Sha.of xs with
        | none => rw [ho] at hv; exact hv.symm
        | some u => rw [ho] at hok; cases hok
      have hne : ¬ strB (Sha.text v) = S := by
        rw [← HS.out]
        intro he
        have h2 := strB_inj he
        have h3 := Sha.of_text v hvl
        rw [h2] at h3
        rw [h3] at hok
        cases hok
      have hz := fun W => run_eql_hash (n := 32) Tryd.underlying32 (by kernel_rfl) v hvl W
      obtain ⟨zb, hzb⟩ : ∃ zb, bytes v = zb := ⟨_, rfl⟩
      have hzl : zb = #[.int .u8 0, .int .u8 0, .int .u8 0, .int .u8 0, .int .u8 0, .int .u8 0, .int .u8 0, .int .u8 0, .int .u8 0, .int .u8 0, .int .u8 0, .int .u8 0, .int .u8 0, .int .u8 0, .int .u8 0, .int .u8 0, .int .u8 0, .int .u8 0, .int .u8 0, .int .u8 0, .int .u8 0, .int .u8 0, .int .u8 0, .int .u8 0, .int .u8 0, .int .u8 0, .int .u8 0, .int .u8 0, .int .u8 0, .int .u8 0, .int .u8 0, .int .u8 0] := by rw [← hzb, hvz]; rfl
      have hqz1 : ∀ x y W, (eqGuard .eql 32 x y (.agg zb) (.agg #[.int .u8 0, .int .u8 0, .int .u8 0, .int .u8 0, .int .u8 0, .int .u8 0, .int .u8 0, .int .u8 0, .int .u8 0, .int .u8 0, .int .u8 0, .int .u8 0, .int .u8 0, .int .u8 0, .int .u8 0, .int .u8 0, .int .u8 0, .int .u8 0, .int .u8 0, .int .u8 0, .int .u8 0, .int .u8 0, .int .u8 0, .int .u8 0, .int .u8 0, .int .u8 0, .int .u8 0, .int .u8 0, .int .u8 0, .int .u8 0, .int .u8 0, .int .u8 0])).run Tryd.prog W = .ok () W := fun x y W => by rw [← hzl, ← hzb]; exact (hz W).1 x y
      have hqz2 : ∀ W, (binOp .eql 32 (.agg zb) (.agg #[.int .u8 0, .int .u8 0, .int .u8 0, .int .u8 0, .int .u8 0, .int .u8 0, .int .u8 0, .int .u8 0, .int .u8 0, .int .u8 0, .int .u8 0, .int .u8 0, .int .u8 0, .int .u8 0, .int .u8 0, .int .u8 0, .int .u8 0, .int .u8 0, .int .u8 0, .int .u8 0, .int .u8 0, .int .u8 0, .int .u8 0, .int .u8 0, .int .u8 0, .int .u8 0, .int .u8 0, .int .u8 0, .int .u8 0, .int .u8 0, .int .u8 0, .int .u8 0])).run Tryd.prog W = .ok (.bool true) W := fun W => by rw [← hzl, ← hzb]; exact (hz W).2
      rw [hzb] at HZ0 HIV HTV
      generalize strB (Sha.text v) = T2 at HTV hne
      have hd1 : decide (T2 = S) = false := decide_eq_false hne
      have hne2 : ¬ T2.toList = S.toList := fun he => hne (by
        rw [ByteArray.toList_eq, ByteArray.toList_eq] at he
        exact ByteArray.ext (Array.toList_inj.1 he))
      have hd2 : (T2.toList == S.toList) = false := by simp [hne2]
      clear hz hzl hzb hvz hv hok hvl hne
      go_wp2_with (first
        | (refine wpList_load_row_w (by rfl) 32 (.tmp 5) rfl O rfl _ _ _ _ HYZ.out Tryd.underlying32 rfl HIB.out ?_)
        | (refine wpList_load_row_w (by rfl) 32 (.tmp 2) rfl w.heap.size rfl _ _ _ _ HXZ.out Tryd.underlying32 rfl HIB.out ?_)
        | (refine wpList_load_row_w (by rfl) 32 (.tmp 7) rfl O2 rfl _ _ _ _ HZ1 Tryd.underlying32 rfl HIV.out ?_)
        | (go_at_call 36; refine (HTV.out _).mono ?_; rintro e w4 ⟨rfl, hb4⟩; have HB4 := Lib.hid (HBZ2.out.trans (hb4.mono HBZ2.out.size)); have HZ1 := (hb4.block O2 (Array.getElem?_eq_some_iff.1 HZ0.out).1).trans HZ0.out; clear hb4)
        | (refine wpList_load_row_w (by rfl) 32 (.tmp 7) rfl O2 rfl _ _ _ _ HZ0.out Tryd.underlying32 rfl HIV.out ?_)
        | (go_at_call 23; refine (HAW.out _ HB4.out).mono ?_; rintro e w5 ⟨rfl, hb5⟩; have HB5 := Lib.hid (HB4.out.trans (hb5.mono HB4.out.size)); clear hb5))
      go_ret
      exact ⟨rfl, HB5.out⟩
end Go.Proofs.YtnoilogepkelaaaDoor
