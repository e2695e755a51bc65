/-
  The document's told: words as a digest.
-/
import Derived.Test.YtnoilogepkelaaaDoorShaC
namespace Go.Proofs.YtnoilogepkelaaaDoor
set_option linter.unusedVariables false
set_option linter.unusedSimpArgs false
open Go Go.RowKit
attribute [local go_sem] u32_shr8 u32_shr16 u32_shr24 u32_to_u8

set_option maxRecDepth 100000 in
set_option maxHeartbeats 4000000 in
theorem rtold_any (ws : List (BitVec 32)) (hw : ws.length = 8) (w : World) : Calls Tryd.prog 69 #[.agg (words ws)] w fun e w' => e = .returned (.agg (bytes (Sha.told ws))) ∧ Below w.heap.size w w' := by
  have HIH := Lib.hid (fun (xs : List (BitVec 8)) (h : xs.length = 32) => (show (Tryd.prog.info? 32).map (·.size) = some (bytes xs).size by rw [bytes_size, h]; kernel_rfl))
  have HW := Lib.hid hw
  obtain ⟨wb, hwb⟩ : ∃ wb, words ws = wb := ⟨_, rfl⟩
  rw [hwb]
  have HWB := Lib.hid hwb
  clear hw hwb
  go_enter Tryd.func69, Tryd.ntmps69
  go_upto_region 2 with fail
  obtain ⟨X, hX, hBX, hXs, hX0, hX1, hX2⟩ := alloc3 w (.cells wb 26) (.cells (bytes (List.replicate 32 0)) 32) (.cells (bytes (fill (Sha.tbyte ws) 0 32 0)) 32)
  have hX' := hX
  simp only [fill, bytes, List.range_zero, List.map_nil, List.nil_append, Nat.sub_zero, List.replicate, List.map] at hX'
  rw [show (Value.int .u8 (bv 0)) = .int .u8 0 from rfl] at hX'
  rw [hX']
  have H0 := Lib.hid hX0
  have H1 := Lib.hid hX1
  have H2 := Lib.hid hX2
  have HB := Lib.hid hBX
  rw [← HWB.out] at H0
  clear hX hX' hBX hXs hX0 hX1 hX2
  go_wp2
  go_loopw [4] (fun s wr => ∃ i : Nat, i ≤ 32 ∧ s = .int .i64 i ∧ Hid (wr.heap[w.heap.size]? = some (.cells (words ws) 26 (0, 0)) ∧ wr.heap[w.heap.size + 1]? = some (.cells (bytes (List.replicate 32 0)) 32 (0, 0))) ∧
    Hid (wr.heap[w.heap.size + 1 + 1]? = some (.cells (bytes (fill (Sha.tbyte ws) 0 32 i)) 32 (0, 0))) ∧ Hid (Below w.heap.size w wr)) (fun s _ => 32 - (intOf s).toNat)
  case atStart => exact ⟨0, by omega, rfl, Lib.hid ⟨H0.out, H1.out⟩, H2, HB⟩
  case round =>
    clear H0 H1 H2 HB
    obtain ⟨i, hi, rfl, H0, H2, HB⟩ := hrel
    by_cases hlt : i < 32
    · have hfl := fill_length (Sha.tbyte ws) 0 32 i (by omega)
      have o0 := (cell_of_row wr (w.heap.size + 1 + 1) i _ _ _ H2.out).trans (bytes_get? _ i (by rw [hfl]; omega))
      have f0 := frozen_of_row wr (w.heap.size + 1 + 1) i _ _ H2.out
      have c0 := (cell_of_row wr w.heap.size (i / 4) _ _ _ H0.out.1).trans (words_get? ws (i / 4) (by rw [HW.out]; omega))
      have hn : ((wr.setCell ⟨w.heap.size + 1 + 1, i, none⟩ (.int .u8 (bv (Sha.tbyte ws i))))).heap[w.heap.size + 1 + 1]? = some (.cells (bytes (fill (Sha.tbyte ws) 0 32 (i + 1))) 32 (0, 0)) := by
        have h := heap_setCell_same wr (w.heap.size + 1 + 1) i _ _ (.int .u8 (bv (Sha.tbyte ws i))) H2.out
        rwa [bytes_set, fill_set _ _ _ _ hlt] at h
      have hk0 : (wr.setCell ⟨w.heap.size + 1 + 1, i, none⟩ (.int .u8 (bv (Sha.tbyte ws i)))).heap[w.heap.size]? = some (.cells (words ws) 26 (0, 0)) := (heap_setCell_other _ _ _ _ (by simp; omega)).trans H0.out.1
      have hk1 : (wr.setCell ⟨w.heap.size + 1 + 1, i, none⟩ (.int .u8 (bv (Sha.tbyte ws i)))).heap[w.heap.size + 1]? = some (.cells (bytes (List.replicate 32 0)) 32 (0, 0)) := (heap_setCell_other _ _ _ _ (by simp)).trans H0.out.2
      have hbl := HB.out.setCell (p := ⟨w.heap.size + 1 + 1, i, none⟩) (by simp; omega) (.int .u8 (bv (Sha.tbyte ws i)))
      obtain ⟨q, j, hq, hj⟩ : ∃ q j : Nat, i = 4 * q + j ∧ j < 4 := ⟨i / 4, i % 4, by omega, by omega⟩
      have ht : Sha.tbyte ws i = Sha.byteOf (ws.getD q 0) j := by rw [hq]; exact Sha.tbyte_at ws q j hj
      rw [show i / 4 = q by omega] at c0
      rw [ht] at hn hk0 hk1 hbl
      have hqi : (i : Int) / 4 = q := by omega
      have hq8 : (q : Int) < 8 := by omega
      have hji : (i : Int) % 4 = j := by omega
      generalize (fill (Sha.tbyte ws) 0 32 i).getD i 0 = z0 at o0
      generalize ws.getD q 0 = x at c0 hn hk0 hk1 hbl
      clear hfl ht hq
      have h4 : j = 0 ∨ j = 1 ∨ j = 2 ∨ j = 3 := by omega
      rcases h4 with rfl | rfl | rfl | rfl
      · rw [show bv (Sha.byteOf x 0) = wv x / 16777216 % 256 from (sbyteOf_div x 0).symm] at hn hk0 hk1 hbl
        have HN := Lib.hid hn; have HK := Lib.hid (And.intro hk0 hk1); have HBL := Lib.hid hbl
        clear hn hk0 hk1 hbl hj
        rw [show ((0 : Nat) : Int) = 0 from rfl] at hji
        go_wp2
        exact ⟨⟨i + 1, by omega, by go_num, HK, HN, HBL⟩, by simp [intOf]; omega⟩
      · rw [show bv (Sha.byteOf x 1) = wv x / 65536 % 256 from (sbyteOf_div x 1).symm] at hn hk0 hk1 hbl
        have HN := Lib.hid hn; have HK := Lib.hid (And.intro hk0 hk1); have HBL := Lib.hid hbl
        clear hn hk0 hk1 hbl hj
        rw [show ((1 : Nat) : Int) = 1 from rfl] at hji
        go_wp2
        exact ⟨⟨i + 1, by omega, by go_num, HK, HN, HBL⟩, by simp [intOf]; omega⟩
      · rw [show bv (Sha.byteOf x 2) = wv x / 256 % 256 from (sbyteOf_div x 2).symm] at hn hk0 hk1 hbl
        have HN := Lib.hid hn; have HK := Lib.hid (And.intro hk0 hk1); have HBL := Lib.hid hbl
        clear hn hk0 hk1 hbl hj
        rw [show ((2 : Nat) : Int) = 2 from rfl] at hji
        go_wp2
        exact ⟨⟨i + 1, by omega, by go_num, HK, HN, HBL⟩, by simp [intOf]; omega⟩
      · rw [show bv (Sha.byteOf x 3) = bv (x.setWidth 8) by simp [Sha.byteOf]] at hn hk0 hk1 hbl
        have HN := Lib.hid hn; have HK := Lib.hid (And.intro hk0 hk1); have HBL := Lib.hid hbl
        clear hn hk0 hk1 hbl hj
        rw [show ((3 : Nat) : Int) = 3 from rfl] at hji
        go_wp2
        exact ⟨⟨i + 1, by omega, by go_num, HK, HN, HBL⟩, by simp [intOf]; omega⟩
    · obtain rfl : i = 32 := by omega
      rw [fill_all, ← Sha.told_eq] at H2
      have hI := Lib.hid (HIH.out (Sha.told ws) (Sha.told_length ws))
      go_wp2_with (first
        | (refine wpList_load_row rfl 32 (.tmp 3) rfl (w.heap.size + 1 + 1) rfl _ _ _ _ H2.out Tryd.underlying32 rfl hI.out ?_)
        | (refine wpList_store_row rfl 32 (.tmp 2) (.tmp 22) rfl (w.heap.size + 1) _ rfl rfl _ _ H0.out.2 hI.out (by rw [bytes_size, bytes_size, Sha.told_length]; rfl) (bytes_one _) ?_))
      exact bodyPost_ret (results_cell_row Tryd.results69 _ _ (w.heap.size + 1) _ _ _ _ rfl (setRow_heap _ _ _ _ _ _ H0.out.2) Tryd.underlying32 rfl hI.out) rfl ⟨rfl, HB.out.trans (((Kept.refl [w.heap.size + 1] wr).setRow (by simp) _).toBelow (B := w.heap.size) (by simp) HB.out.size)⟩
end Go.Proofs.YtnoilogepkelaaaDoor
