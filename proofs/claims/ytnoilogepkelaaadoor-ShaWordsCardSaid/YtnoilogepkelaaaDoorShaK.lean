/-
  A digest's word and back: plain Lean.
-/
import Derived.Test.YtnoilogepkelaaaDoorShaI
namespace Go.Proofs.YtnoilogepkelaaaDoor.Sha
set_option linter.unusedVariables false
set_option linter.unusedSimpArgs false
set_option maxRecDepth 100000 in
theorem byte_back : ∀ n, n < 256 → nibB (dg (n / 16)) <<< 4 ||| nibB (dg (n % 16)) = BitVec.ofNat 8 n := by decide +kernel
set_option maxRecDepth 100000 in
theorem byte_ok : ∀ n, n < 256 → bv (nibB (dg (n / 16)) ||| nibB (dg (n % 16))) < 16 := by decide +kernel
set_option maxRecDepth 100000 in
theorem dg_nib : ∀ n, n < 256 → (nibB (BitVec.ofNat 8 n)).toNat < 16 → dg (nibB (BitVec.ofNat 8 n)).toNat = BitVec.ofNat 8 n := by decide +kernel
set_option maxRecDepth 100000 in
theorem two_parts : ∀ p, p < 16 → ∀ q, q < 16 → (BitVec.ofNat 8 p <<< 4 ||| BitVec.ofNat 8 q).toNat / 16 = p ∧ (BitVec.ofNat 8 p <<< 4 ||| BitVec.ofNat 8 q).toNat % 16 = q := by decide +kernel
theorem text_cons (c : BitVec 8) (h : List (BitVec 8)) : text (c :: h) = dg (c.toNat / 16) :: dg (c.toNat % 16) :: text h := rfl
theorem text_at : ∀ (h : List (BitVec 8)) (j : Nat), j < h.length → (text h).getD (2 * j) 0 = dg ((h.getD j 0).toNat / 16) ∧ (text h).getD (2 * j + 1) 0 = dg ((h.getD j 0).toNat % 16)
  | [], j, hj => absurd hj (by simp)
  | c :: h, 0, _ => ⟨rfl, rfl⟩
  | c :: h, j + 1, hj => by
    have ih := text_at h j (by simpa using hj)
    rw [text_cons, show 2 * (j + 1) = 2 * j + 1 + 1 by omega]
    exact ih
theorem of_text (h : List (BitVec 8)) (hl : h.length = 32) : of (text h) = some h := by
  have hv : ∀ j, j < 32 → ofVal (text h) j = h.getD j 0 ∧ ofOk (text h) j = true := fun j hj => by
    have ha := text_at h j (by omega)
    have hb := (h.getD j 0).isLt
    refine ⟨?_, ?_⟩
    · rw [ofVal, ha.1, ha.2, byte_back _ hb, BitVec.ofNat_toNat, BitVec.setWidth_eq]
    · rw [ofOk, ha.1, ha.2]; exact decide_eq_true (byte_ok _ hb)
  rw [of_good (text h) (by rw [text_length]; omega) (fun j hj => (hv j hj).2), fill_all]
  congr 1
  apply List.ext_getElem?
  intro j
  by_cases hj : j < 32
  · rw [List.getElem?_map, List.getElem?_range hj, Option.map_some, (hv j hj).1, List.getD, List.getElem?_eq_getElem (by omega)]
    rfl
  · rw [List.getElem?_eq_none (by simp; omega), List.getElem?_eq_none (by omega)]
theorem text_of (xs v : List (BitVec 8)) (h : of xs = some v) : v.length = 32 ∧ text v = xs := by
  have hc : xs.length = 64 ∧ (List.range 32).all (ofOk xs) = true := by
    unfold of at h
    split at h
    · assumption
    · cases h
  have hk := fun j hj => List.all_eq_true.1 hc.2 j (List.mem_range.2 hj)
  rw [of_good xs hc.1 hk, fill_all] at h
  obtain rfl := Option.some.inj h
  have hl : ((List.range 32).map (ofVal xs)).length = 32 := by simp
  refine ⟨hl, ?_⟩
  have hget : ∀ j, j < 32 → ((List.range 32).map (ofVal xs)).getD j 0 = ofVal xs j := fun j hj => by simp [List.getD, hj]
  have hpair : ∀ j, j < 32 → (text ((List.range 32).map (ofVal xs))).getD (2 * j) 0 = xs.getD (2 * j) 0 ∧ (text ((List.range 32).map (ofVal xs))).getD (2 * j + 1) 0 = xs.getD (2 * j + 1) 0 := fun j hj => by
    have ha := text_at _ j (by rw [hl]; exact hj)
    rw [hget j hj] at ha
    have hok := hk j hj
    rw [ofOk] at hok
    have h16 := of_decide_eq_true hok
    rw [ofVal] at ha
    rw [ha.1, ha.2]
    clear ha hok
    generalize xs.getD (2 * j) 0 = a at *
    generalize xs.getD (2 * j + 1) 0 = b at *
    have h17 : (nibB a ||| nibB b).toNat < 16 := by unfold bv at h16; omega
    rw [BitVec.toNat_or] at h17
    have ha16 : (nibB a).toNat < 16 := Nat.lt_of_le_of_lt Nat.left_le_or h17
    have hb16 : (nibB b).toNat < 16 := Nat.lt_of_le_of_lt Nat.right_le_or h17
    have ea : BitVec.ofNat 8 a.toNat = a := by rw [BitVec.ofNat_toNat, BitVec.setWidth_eq]
    have eb : BitVec.ofNat 8 b.toNat = b := by rw [BitVec.ofNat_toNat, BitVec.setWidth_eq]
    have en : BitVec.ofNat 8 (nibB a).toNat = nibB a := by rw [BitVec.ofNat_toNat, BitVec.setWidth_eq]
    have em : BitVec.ofNat 8 (nibB b).toNat = nibB b := by rw [BitVec.ofNat_toNat, BitVec.setWidth_eq]
    have h2 := two_parts _ ha16 _ hb16
    rw [en, em] at h2
    have da := dg_nib a.toNat a.isLt
    have db := dg_nib b.toNat b.isLt
    rw [ea] at da
    rw [eb] at db
    rw [h2.1, h2.2]
    exact ⟨da ha16, db hb16⟩
  apply List.ext_getElem?
  intro j
  by_cases hj : j < 64
  · have hg : (text ((List.range 32).map (ofVal xs))).getD j 0 = xs.getD j 0 := by
      have hp := hpair (j / 2) (by omega)
      by_cases e : j % 2 = 0
      · rw [show 2 * (j / 2) = j by omega] at hp; exact hp.1
      · rw [show 2 * (j / 2) + 1 = j by omega] at hp; exact hp.2
    have h1 : j < (text ((List.range 32).map (ofVal xs))).length := by rw [text_length, hl]; omega
    have h2 : j < xs.length := by omega
    rw [List.getD, List.getD, List.getElem?_eq_getElem h1, List.getElem?_eq_getElem h2] at hg
    rw [List.getElem?_eq_getElem h1, List.getElem?_eq_getElem h2]
    exact congrArg some hg
  · rw [List.getElem?_eq_none (by rw [text_length, hl]; omega), List.getElem?_eq_none (by omega)]
end Go.Proofs.YtnoilogepkelaaaDoor.Sha
namespace Go.Proofs.YtnoilogepkelaaaDoor
open Go
theorem strB_all (s : ByteArray) : ∃ xs, s = strB xs := ⟨s.data.toList.map UInt8.toBitVec, by
  apply ByteArray.ext
  apply Array.toList_inj.1
  have hd : (strB (s.data.toList.map UInt8.toBitVec)).data.toList = ((s.data.toList.map UInt8.toBitVec).map bv).map (fun n => UInt8.ofNat n.toNat) := strOfNums_data _
  rw [hd, List.map_map, List.map_map]
  refine (List.map_id _).symm.trans (List.map_congr_left fun x _ => ?_)
  simp [bv]⟩
end Go.Proofs.YtnoilogepkelaaaDoor
