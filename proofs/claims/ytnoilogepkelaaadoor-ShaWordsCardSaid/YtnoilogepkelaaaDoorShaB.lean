/-
  sha.Behind: what stands behind so many bytes.
-/
import Derived.Test.YtnoilogepkelaaaDoorShaP
import Derived.Test.YtnoilogepkelaaaDoorStr
import Derived.Deep.DeepCutAuto
namespace Go.Proofs.YtnoilogepkelaaaDoor
set_option linter.unusedVariables false
set_option linter.unusedSimpArgs false
open Go Go.RowKit

/-- What stands behind n bytes, of whose last eight i have been written. -/
def Sha.bh (n i : Nat) : List (BitVec 8) := (List.range (Sha.many n + 8)).map fun j => if j = 0 then 128 else if Sha.many n + 8 - i ≤ j then BitVec.ofNat 8 (8 * n / 2 ^ (8 * (Sha.many n + 7 - j))) else 0
theorem Sha.bh_length (n i : Nat) : (Sha.bh n i).length = Sha.many n + 8 := by simp [Sha.bh]
theorem Sha.bh_getD (n i j : Nat) (h : j < Sha.many n + 8) : (Sha.bh n i).getD j 0 = if j = 0 then 128 else if Sha.many n + 8 - i ≤ j then BitVec.ofNat 8 (8 * n / 2 ^ (8 * (Sha.many n + 7 - j))) else 0 := by simp [Sha.bh, List.getD, h]
theorem Sha.ext8 {xs ys : List (BitVec 8)} (hl : xs.length = ys.length) (h : ∀ j, j < xs.length → xs.getD j 0 = ys.getD j 0) : xs = ys := by
  apply List.ext_getElem?
  intro j
  by_cases hj : j < xs.length
  · have := h j hj
    rw [List.getElem?_eq_getElem hj, List.getElem?_eq_getElem (by omega)]
    simpa [List.getD, hj, show j < ys.length by omega] using this
  · rw [List.getElem?_eq_none (by omega), List.getElem?_eq_none (by omega)]
theorem Sha.bh_zero (n : Nat) : Sha.bh n 0 = (List.replicate (Sha.many n + 8) 0).set 0 128 := by
  have hp := Sha.many_pos n
  refine Sha.ext8 (by rw [Sha.bh_length]; simp) fun j hj => ?_
  rw [Sha.bh_length] at hj
  rw [Sha.bh_getD _ _ _ hj]
  simp only [List.getD, List.getElem?_set, List.length_replicate, List.getElem?_replicate]
  by_cases h : j = 0
  · subst h; rw [if_pos rfl, if_pos rfl, if_pos (by omega)]; rfl
  · rw [if_neg h, if_neg (by omega), if_neg (by omega), if_pos hj]; rfl
theorem Sha.bh_succ (n i : Nat) (h : i < 8) : Sha.bh n (i + 1) = (Sha.bh n i).set (Sha.many n + 7 - i) (BitVec.ofNat 8 (8 * n / 2 ^ (8 * i))) := by
  have hp := Sha.many_pos n
  refine Sha.ext8 (by rw [List.length_set, Sha.bh_length, Sha.bh_length]) fun j hj => ?_
  rw [Sha.bh_length] at hj
  have hs : ((Sha.bh n i).set (Sha.many n + 7 - i) (BitVec.ofNat 8 (8 * n / 2 ^ (8 * i)))).getD j 0 = if Sha.many n + 7 - i = j then BitVec.ofNat 8 (8 * n / 2 ^ (8 * i)) else (Sha.bh n i).getD j 0 := by
    simp only [List.getD, List.getElem?_set]
    by_cases e : Sha.many n + 7 - i = j
    · rw [if_pos e, if_pos e, if_pos (by rw [Sha.bh_length]; omega)]; rfl
    · rw [if_neg e, if_neg e]
  rw [hs, Sha.bh_getD _ _ _ hj, Sha.bh_getD _ _ _ hj]
  by_cases h0 : j = 0
  · rw [if_pos h0, if_neg (by omega), if_pos h0]
  · rw [if_neg h0, if_neg h0]
    by_cases h1 : Sha.many n + 7 - i = j
    · rw [if_pos h1, if_pos (by omega), show Sha.many n + 7 - j = i by omega]
    · rw [if_neg h1]
      by_cases h2 : Sha.many n + 8 - i ≤ j
      · rw [if_pos h2, if_pos (by omega)]
      · rw [if_neg h2, if_neg (by omega)]
theorem Sha.bh_all (n : Nat) : Sha.bh n 8 = Sha.behind n := by
  have hp := Sha.many_pos n
  refine Sha.ext8 (by rw [Sha.bh_length, Sha.behind_length]) fun j hj => ?_
  rw [Sha.bh_length] at hj
  rw [Sha.bh_getD _ _ _ hj]
  unfold Sha.behind
  rw [List.cons_append]
  by_cases h0 : j = 0
  · subst h0; rfl
  · obtain ⟨t, rfl⟩ : ∃ t, j = t + 1 := ⟨j - 1, by omega⟩
    rw [if_neg h0, List.getD_cons_succ]
    simp only [List.getD]
    by_cases h2 : Sha.many n + 8 - 8 ≤ t + 1
    · rw [if_pos h2, List.getElem?_append_right (by simp; omega), List.length_replicate]
      unfold Sha.be8
      rw [List.getElem?_map, List.getElem?_range (by omega), Option.map_some, Option.getD_some, show 8 * (Sha.many n + 7 - (t + 1)) = 56 - 8 * (t - (Sha.many n - 1)) by omega]
    · rw [if_neg h2, List.getElem?_append_left (by simp; omega), List.getElem?_replicate, if_pos (by omega)]; rfl

set_option maxRecDepth 100000 in
set_option maxHeartbeats 1000000 in
theorem behind_no (n : Int) (h : n < 0 ∨ 1152921504606846976 < n) (w : World) : Calls Tryd.prog 24 #[.int .i64 n] w fun e w' => e = .returned (.slice none 0 0) ∧ w = w' := by
  rcases h with h | h
  · go_enter Tryd.func24, Tryd.ntmps24
    go_wp2
    go_ret
    exact ⟨rfl, rfl⟩
  · have h' : ¬ n < 0 := by omega
    go_enter Tryd.func24, Tryd.ntmps24
    go_wp2
    go_ret
    exact ⟨rfl, rfl⟩

set_option maxRecDepth 100000 in
set_option maxHeartbeats 4000000 in
theorem behind_any (n : Nat) (hn : n ≤ 1152921504606846976) (w : World) : Calls Tryd.prog 24 #[.int .i64 (n : Int)] w (RetB w (Sha.behind n)) := by
  have hp := Sha.many_pos n
  have hm : 64 - ((n : Int) + 8) % 64 = (Sha.many n : Int) := by unfold Sha.many; omega
  have hmk := made_bytes (Sha.many n + 8) (by omega) w
  rw [Int.natCast_add, show ((8 : Nat) : Int) = 8 from rfl] at hmk
  have H0 := Lib.hid (Sha.bh_zero n)
  have HS := Lib.hid (fun i h => Sha.bh_succ n i h)
  have HA := Lib.hid (Sha.bh_all n)
  have HL := Lib.hid (fun i => Sha.bh_length n i)
  obtain ⟨m, hmn⟩ : ∃ m, Sha.many n = m := ⟨_, rfl⟩
  rw [hmn] at hp hm hmk H0 HL HS
  have HMN := Lib.hid hmn
  obtain ⟨Z, hZ⟩ : ∃ Z, Z = bytes (List.replicate (m + 8) 0) := ⟨_, rfl⟩
  rw [← hZ] at hmk
  have HZ := Lib.hid hZ
  clear hmn hZ
  go_enter Tryd.func24, Tryd.ntmps24
  go_upto_region 5 with fail
  have ho : OwnB 5 w.heap.size (w.alloc (.cells Z 5)) (.slice (some ⟨w.heap.size, 0, none⟩) (m + 8) (m + 8)) (List.replicate (m + 8) 0) := by
    rw [HZ.out]
    have h := OwnB.made (E := 5) (base := w.heap.size) w (List.replicate (m + 8) 0) (Nat.le_refl _) (by simp; unfold maxLen; omega)
    rwa [List.length_replicate] at h
  obtain ⟨X, hX, hBX, hXs, _⟩ := alloc1 w (.cells Z 5)
  rw [hX] at ho ⊢
  have c0 := ho.get_cell 0 (by simp)
  have f0 := ho.not_frozen 0
  have ho1 := ho.set_cell 0 (by simp) 128
  rw [← H0.out, show bv 128 = 128 from rfl] at ho1
  have HO := Lib.hid ho1
  have HB := Lib.hid (hBX.setCell (p := ⟨w.heap.size, 0, none⟩) (Nat.le_refl _) (.int .u8 128))
  have c0' : X.cell? ⟨w.heap.size, 0, none⟩ = some (.int .u8 (bv ((List.replicate (m + 8) 0).getD 0 0))) := c0
  generalize (List.replicate (m + 8) (0 : BitVec 8)).getD 0 0 = z at c0'
  clear c0 ho ho1 hX hBX hXs hmk HZ H0 hm
  go_upto_region 7 with fail
  clear c0' f0
  generalize X.setCell ⟨w.heap.size, 0, none⟩ (.int .u8 128) = X at *
  go_loopw [21] (fun s wr => ∃ i : Nat, i ≤ 8 ∧ s = .int .i64 i ∧ Hid (OwnB 5 w.heap.size wr (.slice (some ⟨w.heap.size, 0, none⟩) (m + 8) (m + 8)) (Sha.bh n i)) ∧ Hid (Below w.heap.size w wr)) (fun s _ => 8 - (intOf s).toNat)
  case atStart => exact ⟨0, by omega, rfl, HO, HB⟩
  case round =>
    clear HO HB
    obtain ⟨i, hi, rfl, HO, HB⟩ := hrel
    by_cases hlt : i < 8
    · have c0 := HO.out.get_cell (m + 7 - i) (by rw [HL.out]; omega)
      unfold byteV at c0
      have f0 := HO.out.not_frozen (m + 7 - i)
      have ho1 := HO.out.set_cell (m + 7 - i) (by rw [HL.out]; omega) (BitVec.ofNat 8 (8 * n / 2 ^ (8 * i)))
      rw [← HS.out i hlt] at ho1
      have e : bv (BitVec.ofNat 8 (8 * n / 2 ^ (8 * i))) = (n : Int) * 8 / 2 ^ (8 * i) % 256 := by
        unfold bv
        rw [BitVec.toNat_ofNat, show (2 : Nat) ^ 8 = 256 from rfl, Nat.mul_comm 8 n]
        push_cast
        rfl
      rw [e] at ho1
      have HO2 := Lib.hid ho1
      have HB2 := Lib.hid (HB.out.setCell (p := ⟨w.heap.size, m + 7 - i, none⟩) (Nat.le_refl _) (.int .u8 ((n : Int) * 8 / 2 ^ (8 * i) % 256)))
      clear e
      generalize (Sha.bh n i).getD (m + 7 - i) 0 = z at c0
      clear ho1
      go_wp2
      exact ⟨⟨i + 1, by omega, by go_num, HO2, HB2⟩, by simp [intOf]; omega⟩
    · obtain rfl : i = 8 := by omega
      rw [HA.out] at HO
      go_wp2
      go_ret
      exact ⟨_, rfl, HO.out, HB.out⟩
end Go.Proofs.YtnoilogepkelaaaDoor
