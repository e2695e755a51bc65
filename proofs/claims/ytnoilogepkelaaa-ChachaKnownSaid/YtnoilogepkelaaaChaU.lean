/-
  ChaCha20's stream, block by block, as chacha.Stream makes it. No program in sight.
-/
import Derived.Test.YtnoilogepkelaaaChaT
namespace Go.Proofs.Ytnoilogepkelaaa.Cha
set_option linter.unusedVariables false
set_option linter.unusedSimpArgs false

/-- So many bytes from o on are changed by those of a block. -/
def xorN (blk : List (BitVec 8)) (o n : Nat) (l : List (BitVec 8)) : List (BitVec 8) :=
  (List.range l.length).map fun j => if o ≤ j ∧ j < o + n then l.getD j 0 ^^^ blk.getD (j - o) 0 else l.getD j 0
theorem xorN_length (blk : List (BitVec 8)) (o n : Nat) (l : List (BitVec 8)) : (xorN blk o n l).length = l.length := by simp [xorN]
theorem xorN_getD (blk : List (BitVec 8)) (o n : Nat) (l : List (BitVec 8)) (j : Nat) (h : j < l.length) : (xorN blk o n l).getD j 0 = if o ≤ j ∧ j < o + n then l.getD j 0 ^^^ blk.getD (j - o) 0 else l.getD j 0 := by
  simp [xorN, List.getD, h]
theorem xorN_zero (blk : List (BitVec 8)) (o : Nat) (l : List (BitVec 8)) : xorN blk o 0 l = l := by
  refine ext_getD (xorN_length _ _ _ _) fun j hj => ?_
  rw [xorN_length] at hj
  rw [xorN_getD _ _ _ _ _ hj, if_neg (by omega)]
theorem xorN_succ (blk : List (BitVec 8)) (o n : Nat) (l : List (BitVec 8)) (h : o + n < l.length) : xorN blk o (n + 1) l = (xorN blk o n l).set (o + n) (l.getD (o + n) 0 ^^^ blk.getD n 0) := by
  refine ext_getD (by rw [List.length_set, xorN_length, xorN_length]) fun j hj => ?_
  rw [xorN_length] at hj
  rw [xorN_getD _ _ _ _ _ hj]
  have hs : ((xorN blk o n l).set (o + n) (l.getD (o + n) 0 ^^^ blk.getD n 0)).getD j 0 = if o + n = j then l.getD (o + n) 0 ^^^ blk.getD n 0 else (xorN blk o n l).getD j 0 := by
    simp only [List.getD, List.getElem?_set]
    by_cases e : o + n = j
    · rw [if_pos e, if_pos e, if_pos (by rw [xorN_length]; omega)]; rfl
    · rw [if_neg e, if_neg e]
  rw [hs]
  by_cases e : o + n = j
  · subst e
    rw [if_pos rfl, if_pos (by omega), show o + n - o = n by omega]
  · rw [if_neg e, xorN_getD _ _ _ _ _ hj]
    by_cases h1 : o ≤ j ∧ j < o + n
    · rw [if_pos h1, if_pos (by omega)]
    · rw [if_neg h1, if_neg (by omega)]
theorem xorN_min (blk : List (BitVec 8)) (o n : Nat) (l : List (BitVec 8)) : xorN blk o (min n (l.length - o)) l = xorN blk o n l := by
  refine ext_getD (by rw [xorN_length, xorN_length]) fun j hj => ?_
  rw [xorN_length] at hj
  rw [xorN_getD _ _ _ _ _ hj, xorN_getD _ _ _ _ _ hj]
  by_cases h1 : o ≤ j ∧ j < o + n
  · rw [if_pos h1, if_pos (by omega)]
  · rw [if_neg h1, if_neg (by omega)]
/-- What a round of the loop makes of the counter and the bytes: of block k. -/
def cstep (key nonce : List (BitVec 8)) (s : BitVec 32 × List (BitVec 8)) (k : Nat) : BitVec 32 × List (BitVec 8) := (s.1 + 1, xorN (block key s.1 nonce) (64 * k) 64 s.2)
def crun (key nonce : List (BitVec 8)) (c : BitVec 32) (b : List (BitVec 8)) (ks : List Nat) : BitVec 32 × List (BitVec 8) := ks.foldl (cstep key nonce) (c, b)
theorem crun_snoc (key nonce : List (BitVec 8)) (c : BitVec 32) (b : List (BitVec 8)) (ks : List Nat) (k : Nat) : crun key nonce c b (ks ++ [k]) = cstep key nonce (crun key nonce c b ks) k := by simp [crun]
theorem crun_length (key nonce : List (BitVec 8)) (c : BitVec 32) (b : List (BitVec 8)) (ks : List Nat) : (crun key nonce c b ks).2.length = b.length := by
  suffices h : ∀ s : BitVec 32 × List (BitVec 8), (ks.foldl (cstep key nonce) s).2.length = s.2.length from h _
  induction ks with
  | nil => exact fun _ => rfl
  | cons k ks ih => exact fun s => (ih _).trans (xorN_length _ _ _ _)
theorem crun_range (key nonce : List (BitVec 8)) (c : BitVec 32) (b : List (BitVec 8)) (n : Nat) :
    (crun key nonce c b (List.range n)).1 = c + BitVec.ofNat 32 n ∧ ∀ j, j < b.length → (crun key nonce c b (List.range n)).2.getD j 0 = if j < 64 * n then (stream key c nonce b).getD j 0 else b.getD j 0 := by
  induction n with
  | zero => exact ⟨by simp [crun], fun j _ => by rw [if_neg (by omega)]; rfl⟩
  | succ n ih =>
    rw [List.range_succ, crun_snoc]
    refine ⟨by show _ + 1 = _; rw [ih.1, BitVec.ofNat_add, BitVec.add_assoc]; rfl, fun j hj => ?_⟩
    show (xorN _ _ _ _).getD j 0 = _
    rw [xorN_getD _ _ _ _ _ (by rw [crun_length]; exact hj), ih.1, ih.2 j hj]
    by_cases h1 : j < 64 * n
    · rw [if_neg (by omega), if_pos h1, if_pos (by omega)]
    · by_cases h2 : j < 64 * (n + 1)
      · rw [if_pos (by omega), if_neg h1, if_pos h2, stream_getD _ _ _ _ _ hj]
        unfold keyAt
        rw [show j / 64 = n by omega, show j % 64 = j - 64 * n by omega]
      · rw [if_neg (by omega), if_neg h1, if_neg h2]
theorem crun_all (key nonce : List (BitVec 8)) (c : BitVec 32) (b : List (BitVec 8)) : (crun key nonce c b (List.range ((b.length + 63) / 64))).2 = stream key c nonce b := by
  refine ext_getD (by rw [crun_length, stream_length]) fun j hj => ?_
  rw [crun_length] at hj
  rw [(crun_range key nonce c b _).2 j hj, if_pos (by omega)]
end Go.Proofs.Ytnoilogepkelaaa.Cha
