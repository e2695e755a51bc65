/-
  The laws of hmac: their example (works), and cut.
-/
import Derived.Test.YtnoilogepkelaaaDoorHmaC
import Derived.Test.YtnoilogepkelaaaDoorShaL
namespace Go.Proofs.YtnoilogepkelaaaDoor
set_option linter.unusedVariables false
set_option linter.unusedSimpArgs false
open Go Go.RowKit
def jefe : List (BitVec 8) := [74, 101, 102, 101]
def ya : List (BitVec 8) := [119, 104, 97, 116, 32, 100, 111, 32, 121, 97, 32, 119, 97, 110, 116, 32, 102, 111, 114, 32, 110, 111, 116, 104, 105, 110, 103, 63]
set_option maxRecDepth 100000 in
theorem tag_jefe : Hma.tag jefe ya = [0x5b, 0xdc, 0xc1, 0x46, 0xbf, 0x60, 0x75, 0x4e, 0x6a, 0x04, 0x24, 0x26, 0x08, 0x95, 0x75, 0xc7, 0x5a, 0x00, 0x3f, 0x08, 0x9d, 0x27, 0x39, 0x83, 0x9d, 0xec, 0x58, 0xb9, 0x64, 0xec, 0x38, 0x43] := by decide +kernel

set_option maxRecDepth 100000 in
set_option maxHeartbeats 1000000 in
theorem hworks_any (w : World) (hG : Glob w) : Calls Tryd.prog 42 #[] w fun e w' => e = .returned (.bool true) ∧ Below w.heap.size w w' := by
  have hgz := hG.size
  have HHM := Lib.hid (fun v0 v1 W (h0 : SlB W v0 jefe) (h1 : SlB W v1 ya) (hB : Below w.heap.size w W) => hmac_any jefe ya v0 v1 W h0 h1 (by simp [jefe]) (by simp [ya]) (hG.below hB hgz))
  have HEQ := Lib.hid (fun v0 v1 W (h0 : SlB W v0 [97]) (h1 : SlB W v1 [97]) => (equal_any [97] [97] v0 v1 W h0 h1 (by simp)))
  rw [show decide (([97] : List (BitVec 8)) = [97]) = true from rfl] at HEQ
  have kc1 := fun W => konst_conv jefe W 4
  have kc2 := fun W => konst_conv ya W 28
  have kc3 := fun W => konst_conv [97] W 1
  rw [show bytes jefe = #[.int .u8 74, .int .u8 101, .int .u8 102, .int .u8 101] from rfl] at kc1
  rw [show bytes ya = #[.int .u8 119, .int .u8 104, .int .u8 97, .int .u8 116, .int .u8 32, .int .u8 100, .int .u8 111, .int .u8 32, .int .u8 121, .int .u8 97, .int .u8 32, .int .u8 119, .int .u8 97, .int .u8 110, .int .u8 116, .int .u8 32, .int .u8 102, .int .u8 111, .int .u8 114, .int .u8 32, .int .u8 110, .int .u8 111, .int .u8 116, .int .u8 104, .int .u8 105, .int .u8 110, .int .u8 103, .int .u8 63] from rfl] at kc2
  rw [show bytes [97] = #[.int .u8 97] from rfl] at kc3
  have HIT := Lib.hid (show (Tryd.prog.info? 32).map (·.size) = some (bytes (Hma.tag jefe ya)).size by rw [bytes_size, Hma.tag_length]; kernel_rfl)
  have HTZ := Lib.hid (show (bytes (Hma.tag jefe ya)).size = 32 by rw [bytes_size, Hma.tag_length])
  have HT0 := Lib.hid (show (bytes (Hma.tag jefe ya))[0]? = some (.int .u8 91) ∧ (bytes (Hma.tag jefe ya))[1]? = some (.int .u8 220) ∧ (bytes (Hma.tag jefe ya))[31]? = some (.int .u8 67) by rw [tag_jefe]; exact ⟨rfl, rfl, rfl⟩)
  have HTO := Lib.hid (bytes_one (Hma.tag jefe ya))
  obtain ⟨T, hT⟩ : ∃ T, bytes (Hma.tag jefe ya) = T := ⟨_, rfl⟩
  rw [hT] at HHM HIT HTZ HT0 HTO
  clear hG hT
  go_enter Tryd.func42, Tryd.ntmps42
  go_upto_region 2 with (first
    | (go_at_call 41; refine (HHM.out _ _ _ ((konst_sl w jefe (by simp [jefe])).below (konst_below _ ya) (Nat.le_refl _)) (konst_sl _ ya (by simp [ya])) ((konst_below w jefe).trans ((konst_below _ ya).mono (konst_below w jefe).size))).mono ?_; rintro e w2 ⟨rfl, hb⟩; have HB2 := Lib.hid (((konst_below w jefe).trans ((konst_below (konst w jefe) ya).mono (konst_below w jefe).size)).trans (hb.mono (by simp only [konst_size]; omega))); clear hb)
    | (refine wpList_store_row rfl 32 (.tmp 1) (.tmp 6) rfl _ _ rfl rfl _ _ (heap_alloc_new _ _) HIT.out (by rw [HTZ.out]; rfl) HTO.out ?_; rw [World.setRow_alloc_new]))
  obtain ⟨X, hX, hBX, hXs, hX0⟩ := alloc1 w2 (.cells T 32)
  rw [hX]
  have hz2 := HB2.out.size
  have HBX := Lib.hid (HB2.out.trans (hBX.mono hz2))
  have c0 := (cell_of_row X w2.heap.size 0 _ _ _ hX0).trans HT0.out.1
  have c1 := (cell_of_row X w2.heap.size 1 _ _ _ hX0).trans HT0.out.2.1
  have c31 := (cell_of_row X w2.heap.size 31 _ _ _ hX0).trans HT0.out.2.2
  clear hX hBX hXs hX0 hz2 HHM HIT HTZ HT0 HTO kc1 kc2
  go_wp2_with (go_at_call 43; refine (HEQ.out _ _ _ ((konst_sl X [97] (by simp)).below (konst_below _ [97]) (Nat.le_refl _)) (konst_sl _ [97] (by simp))).mono ?_; rintro e w3 ⟨rfl, hb⟩; have HB3 := Lib.hid (((konst_below X [97]).trans ((konst_below (konst X [97]) [97]).mono (konst_below X [97]).size)).trans (hb.mono (by simp only [konst_size]; omega))); clear hb)
  go_ret
  exact ⟨rfl, HBX.out.trans (HB3.out.mono HBX.out.size)⟩

/-- cut: bytes, 600 at most. -/
theorem cut_any (xs : List (BitVec 8)) (v : Value) (w : World) (h : SlB w v xs) :
    Calls Tryd.prog 40 #[v] w fun e w' => ∃ u, e = .returned u ∧ SlB w u (xs.take 600) ∧ w = w' := by
  obtain ⟨a, cap, rfl⟩ := h.len
  have hb := h.bounds.2
  have hl : xs.length ≤ 600 ∨ 600 < xs.length := by omega
  rcases hl with hl | hl
  · have HS := Lib.hid (show SlB w (.slice a xs.length cap) (xs.take 600) by rw [List.take_of_length_le hl]; exact h)
    generalize xs.take 600 = ys at HS ⊢
    generalize xs.length = n at *
    clear h
    go_enter Tryd.func40, Tryd.ntmps40
    go_wp2
    go_ret
    exact ⟨_, rfl, HS.out, rfl⟩
  · have HS := Lib.hid (h.upTo 600 (by omega))
    generalize xs.take 600 = ys at HS ⊢
    generalize xs.length = n at *
    clear h
    go_enter Tryd.func40, Tryd.ntmps40
    go_wp2
    go_ret
    exact ⟨_, rfl, HS.out, rfl⟩
end Go.Proofs.YtnoilogepkelaaaDoor
