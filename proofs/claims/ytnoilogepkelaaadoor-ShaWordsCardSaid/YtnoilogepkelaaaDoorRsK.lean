/-
  The document's sha: Text.
-/
import Derived.Test.YtnoilogepkelaaaDoorRsJ
import Derived.Test.YtnoilogepkelaaaDoorShaH
namespace Go.Proofs.YtnoilogepkelaaaDoor
set_option linter.unusedVariables false
set_option linter.unusedSimpArgs false
open Go Go.RowKit

theorem strB_app (xs ys : List (BitVec 8)) : strB xs ++ strB ys = strB (xs ++ ys) := by
  apply ByteArray.ext
  apply Array.toList_inj.1
  have h : ∀ zs : List (BitVec 8), (strB zs).data.toList = (zs.map bv).map (fun n => UInt8.ofNat n.toNat) := fun zs => strOfNums_data _
  rw [ByteArray.data_append, Array.toList_append, h, h, h, List.map_append, List.map_append]
set_option maxRecDepth 100000 in
theorem dig_cut (k : Nat) (hk : k < 16) : (ByteArray.mk #[48, 49, 50, 51, 52, 53, 54, 55, 56, 57, 97, 98, 99, 100, 101, 102]).extract k (k + 1) = strB [Sha.dg k] := by
  have : k = 0 ∨ k = 1 ∨ k = 2 ∨ k = 3 ∨ k = 4 ∨ k = 5 ∨ k = 6 ∨ k = 7 ∨ k = 8 ∨ k = 9 ∨ k = 10 ∨ k = 11 ∨ k = 12 ∨ k = 13 ∨ k = 14 ∨ k = 15 := by omega
  rcases this with rfl | rfl | rfl | rfl | rfl | rfl | rfl | rfl | rfl | rfl | rfl | rfl | rfl | rfl | rfl | rfl <;> decide +kernel
theorem add_dig (xs : List (BitVec 8)) (k : Nat) (hk : k < 16) (hl : xs.length ≤ 1000) : Op.stringOp .add (strB xs) ((ByteArray.mk #[48, 49, 50, 51, 52, 53, 54, 55, 56, 57, 97, 98, 99, 100, 101, 102]).extract k (k + 1)) = pure (.string (strB (xs ++ [Sha.dg k]))) := by
  rw [dig_cut k hk]
  unfold Op.stringOp
  simp only
  rw [if_neg (by rw [strB_size, strB_size]; show ¬ _ > (9223372036854775807 : Int); simp only [List.length_singleton]; omega), strB_app]

set_option maxRecDepth 100000 in
set_option maxHeartbeats 4000000 in
theorem rtext_any (h : List (BitVec 8)) (hh : h.length = 32) (w : World) :
    Calls Tryd.prog 37 #[.agg (bytes h)] w fun e w' => e = .returned (.string (strB (Sha.text h))) ∧ Below w.heap.size w w' := by
  have HH := Lib.hid hh
  have HTK := Lib.hid (fun i hi => Sha.text_take h i hi)
  have HCE := Lib.hid (fun i (hi : i < 32) => bytes_get? h i (by omega))
  have HT32 := Lib.hid (show h.take 32 = h from List.take_of_length_le (by omega))
  have HS0 := Lib.hid (show strB (Sha.text (h.take 0)) = ⟨#[]⟩ from rfl)
  obtain ⟨bb, hbb⟩ : ∃ bb, bytes h = bb := ⟨_, rfl⟩
  rw [hbb] at HCE ⊢
  clear hh hbb
  go_enter Tryd.func37, Tryd.ntmps37
  go_upto_region 1 with fail
  obtain ⟨X, hX, hBX, hXs, hX0⟩ := alloc1 w (.cells bb 32)
  rw [hX]
  have HB0 := Lib.hid hBX
  have HX0 := Lib.hid hX0
  have HXS := Lib.hid (show w.heap.size < X.heap.size by omega)
  clear hX hBX hX0 hXs
  obtain ⟨G, hG⟩ : ∃ G, w.heap.size = G := ⟨_, rfl⟩
  have HG := Lib.hid hG
  rw [hG] at HX0 HXS ⊢
  clear hG
  go_wp2
  go_loopw [4, 5] (fun s4 s5 wr => ∃ i : Nat, i ≤ 32 ∧ s5 = .int .i64 i ∧ s4 = .string (strB (Sha.text (h.take i))) ∧ Hid (Below X.heap.size X wr)) (fun _ s5 _ => 32 - (intOf s5).toNat)
  case atStart => exact ⟨0, by omega, rfl, by rw [HS0.out], Below.refl _ _⟩
  case round =>
    obtain ⟨i, hi, rfl, rfl, HB⟩ := hrel
    by_cases hlt : i < 32
    · have c0 := (cell_of_row wr G i _ _ _ ((HB.out.block _ HXS.out).trans HX0.out)).trans (HCE.out i hlt)
      have htk := HTK.out i (by rw [HH.out]; exact hlt)
      generalize h.getD i 0 = c at c0 htk
      have hcl := c.isLt
      obtain ⟨n, hn⟩ : ∃ n, c.toNat = n := ⟨_, rfl⟩
      have hb : bv c = (n : Int) := by rw [← hn]; rfl
      have HN := Lib.hid hn
      rw [hb] at c0
      rw [hn] at hcl
      have htl := Sha.text_length (h.take i)
      rw [List.length_take] at htl
      have a1 := add_dig (Sha.text (h.take i)) (n / 16) (by omega) (by omega)
      have a2 := add_dig (Sha.text (h.take i) ++ [Sha.dg (n / 16)]) (n % 16) (by omega) (by rw [List.length_append, List.length_singleton]; omega)
      have htw : Sha.text (h.take i) ++ [Sha.dg (n / 16)] ++ [Sha.dg (n % 16)] = Sha.text (h.take (i + 1)) := by rw [htk, Sha.two, hn]; simp
      rw [htw] at a2
      obtain ⟨T, hT⟩ : ∃ T, strB (Sha.text (h.take i)) = T := ⟨_, rfl⟩
      obtain ⟨T1, hT1⟩ : ∃ T, strB (Sha.text (h.take i) ++ [Sha.dg (n / 16)]) = T := ⟨_, rfl⟩
      obtain ⟨T2, hT2⟩ : ∃ T, strB (Sha.text (h.take (i + 1))) = T := ⟨_, rfl⟩
      rw [hT] at a1 ⊢
      rw [hT1] at a1 a2
      rw [hT2] at a2
      have HT2 := Lib.hid hT2
      have wi : IntKind.i64.wrap (i : Int) = i := by rw [IntKind.wrap_i64]; omega
      have hi32 : (i : Int) < 32 := by omega
      clear htk hn hT hb htl htw hT1 hT2
      go_upto_region 6 with fail
      go_region
      go_upto_region 7 with fail
      go_region
      go_wp2
      exact ⟨⟨i + 1, by omega, by go_num, by rw [HT2.out], HB.out.drew.drew⟩, by simp [intOf]; omega⟩
    · obtain rfl : i = 32 := by omega
      rw [HT32.out]
      go_wp2
      go_ret
      exact ⟨rfl, HB0.out.trans (HB.out.mono HB0.out.size)⟩
end Go.Proofs.YtnoilogepkelaaaDoor
