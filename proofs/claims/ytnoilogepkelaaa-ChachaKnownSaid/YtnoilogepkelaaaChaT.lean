/-
  ChaCha20's stream on bit vectors. No program in sight.
-/
import Derived.Test.YtnoilogepkelaaaChaSpec
namespace Go.Proofs.Ytnoilogepkelaaa.Cha
set_option linter.unusedVariables false
set_option linter.unusedSimpArgs false

/-- Byte j of what is xored. -/
def keyAt (key : List (BitVec 8)) (c : BitVec 32) (nonce : List (BitVec 8)) (j : Nat) : BitVec 8 := (block key (c + BitVec.ofNat 32 (j / 64)) nonce).getD (j % 64) 0
def stream (key : List (BitVec 8)) (c : BitVec 32) (nonce : List (BitVec 8)) (b : List (BitVec 8)) : List (BitVec 8) :=
  (List.range b.length).map fun j => b.getD j 0 ^^^ keyAt key c nonce j
/-- Is there a counter for each block? -/
def fits (c : BitVec 32) (n : Nat) : Bool := decide (n = 0) || decide (c.toNat + (n - 1) / 64 < 4294967296)
theorem stream_length (key : List (BitVec 8)) (c : BitVec 32) (nonce b : List (BitVec 8)) : (stream key c nonce b).length = b.length := by simp [stream]
theorem stream_getD (key : List (BitVec 8)) (c : BitVec 32) (nonce b : List (BitVec 8)) (j : Nat) (h : j < b.length) : (stream key c nonce b).getD j 0 = b.getD j 0 ^^^ keyAt key c nonce j := by
  simp [stream, List.getD, h]
theorem ext_getD {xs ys : List (BitVec 8)} (hl : xs.length = ys.length) (h : ∀ j, j < xs.length → xs.getD j 0 = ys.getD j 0) : xs = ys := by
  apply List.ext_getElem?
  intro j
  by_cases hj : j < xs.length
  · have := h j hj
    rw [List.getElem?_eq_getElem hj, List.getElem?_eq_getElem (by omega)]
    simpa [List.getD, hj, show j < ys.length by omega] using this
  · rw [List.getElem?_eq_none (by omega), List.getElem?_eq_none (by omega)]
theorem getD_take (b : List (BitVec 8)) (k j : Nat) (h : j < k) : (b.take k).getD j 0 = b.getD j 0 := by simp [List.getD, h]
theorem getD_drop (b : List (BitVec 8)) (k j : Nat) : (b.drop k).getD j 0 = b.getD (k + j) 0 := by simp [List.getD]
theorem stream_back (key : List (BitVec 8)) (c : BitVec 32) (nonce b : List (BitVec 8)) : stream key c nonce (stream key c nonce b) = b := by
  refine ext_getD (by simp [stream_length]) fun j hj => ?_
  rw [stream_length, stream_length] at hj
  rw [stream_getD _ _ _ _ _ (by rw [stream_length]; exact hj), stream_getD _ _ _ _ _ hj]
  generalize keyAt key c nonce j = y
  generalize b.getD j 0 = z
  rw [BitVec.xor_assoc, BitVec.xor_self, BitVec.xor_zero]
theorem stream_take (key : List (BitVec 8)) (c : BitVec 32) (nonce b : List (BitVec 8)) (k : Nat) : stream key c nonce (b.take k) = (stream key c nonce b).take k := by
  refine ext_getD (by simp [stream_length]) fun j hj => ?_
  rw [stream_length, List.length_take] at hj
  rw [stream_getD key c nonce (b.take k) j (by rw [List.length_take]; exact hj), getD_take b _ _ (by omega), getD_take (stream key c nonce b) _ _ (by omega), stream_getD key c nonce b j (by omega)]
theorem stream_drop (key : List (BitVec 8)) (c : BitVec 32) (nonce b : List (BitVec 8)) (k : Nat) : stream key (c + BitVec.ofNat 32 k) nonce (b.drop (64 * k)) = (stream key c nonce b).drop (64 * k) := by
  refine ext_getD (by simp [stream_length]) fun j hj => ?_
  rw [stream_length, List.length_drop] at hj
  rw [stream_getD _ _ _ _ _ (by rw [List.length_drop]; exact hj), getD_drop, getD_drop, stream_getD _ _ _ _ _ (by omega)]
  have e : keyAt key (c + BitVec.ofNat 32 k) nonce j = keyAt key c nonce (64 * k + j) := by
    unfold keyAt
    rw [show (64 * k + j) / 64 = k + j / 64 by omega, show (64 * k + j) % 64 = j % 64 by omega, BitVec.ofNat_add, BitVec.add_assoc]
  rw [e]
theorem fits_take (c : BitVec 32) (n k : Nat) (h : fits c n = true) (hk : k ≤ n) : fits c k = true := by
  simp only [fits, Bool.or_eq_true, decide_eq_true_eq] at h ⊢
  omega
theorem fits_drop (c : BitVec 32) (n k : Nat) (h : fits c n = true) (hk : 64 * k < n) : fits (c + BitVec.ofNat 32 k) (n - 64 * k) = true := by
  simp only [fits, Bool.or_eq_true, decide_eq_true_eq] at h ⊢
  right
  have h' : c.toNat + (n - 1) / 64 < 4294967296 := by omega
  rw [BitVec.toNat_add, BitVec.toNat_ofNat]
  have e1 : k % 2 ^ 32 = k := Nat.mod_eq_of_lt (by omega)
  rw [e1, Nat.mod_eq_of_lt (by omega)]
  omega
/-- So many bytes of a stream, block by block. -/
theorem stream_succ (key : List (BitVec 8)) (c : BitVec 32) (nonce b : List (BitVec 8)) (k : Nat) (h : 64 * k < b.length) :
    (stream key c nonce b).take (64 * (k + 1)) = (stream key c nonce b).take (64 * k) ++ (List.range (min 64 (b.length - 64 * k))).map fun j => b.getD (64 * k + j) 0 ^^^ (block key (c + BitVec.ofNat 32 k) nonce).getD j 0 := by
  refine ext_getD (by rw [List.length_append, List.length_take, List.length_take, stream_length, List.length_map, List.length_range]; omega) fun j hj => ?_
  rw [List.length_take, stream_length] at hj
  rw [getD_take _ _ _ (by omega), stream_getD _ _ _ _ _ (by omega)]
  by_cases h1 : j < 64 * k
  · simp only [List.getD]
    rw [List.getElem?_append_left (by rw [List.length_take, stream_length]; omega), List.getElem?_take, if_pos h1]
    have := stream_getD key c nonce b j (by omega)
    simp only [List.getD] at this
    rw [this]
  · simp only [List.getD]
    rw [List.getElem?_append_right (by rw [List.length_take, stream_length]; omega), List.length_take, stream_length, show min (64 * k) b.length = 64 * k by omega, List.getElem?_map, List.getElem?_range (by omega), Option.map_some, Option.getD_some]
    unfold keyAt
    rw [show j / 64 = k by omega, show j % 64 = j - 64 * k by omega]
    simp only [List.getD]
    rw [show 64 * k + (j - 64 * k) = j by omega]
end Go.Proofs.Ytnoilogepkelaaa.Cha
