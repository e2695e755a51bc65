/-
  sha.told: words as a digest.
-/
import Derived.Test.YtnoilogepkelaaaDoorShaP
import Derived.Test.YtnoilogepkelaaaDoorStr
import Derived.Deep.DeepCutAuto
namespace Go.Proofs.YtnoilogepkelaaaDoor
set_option linter.unusedVariables false
set_option linter.unusedSimpArgs false
open Go Go.RowKit
attribute [local go_sem] u32_shr8 u32_shr16 u32_shr24 u32_to_u8

def Sha.tbyte (ws : List (BitVec 32)) (j : Nat) : BitVec 8 := Sha.byteOf (ws.getD (j / 4) 0) (j % 4)
theorem Sha.tbyte_at (ws : List (BitVec 32)) (k j : Nat) (h : j < 4) : Sha.tbyte ws (4 * k + j) = Sha.byteOf (ws.getD k 0) j := by
  unfold Sha.tbyte
  rw [show (4 * k + j) / 4 = k by omega, show (4 * k + j) % 4 = j by omega]
theorem Sha.told_eq (ws : List (BitVec 32)) : Sha.told ws = (List.range 32).map (Sha.tbyte ws) := rfl
theorem sbyteOf_div (x : BitVec 32) (j : Nat) : wv x / (2 ^ (24 - 8 * j) : Nat) % 256 = bv (Sha.byteOf x j) := by
  simp only [wv, bv, Sha.byteOf, BitVec.toNat_setWidth, BitVec.toNat_ushiftRight, Nat.shiftRight_eq_div_pow]
  omega

set_option maxRecDepth 100000 in
set_option maxHeartbeats 4000000 in
theorem told_any (ws : List (BitVec 32)) (hw : ws.length = 8) (w : World) : Calls Tryd.prog 64 #[.agg (words ws)] w fun e w' => e = .returned (.agg (bytes (Sha.told ws))) ∧ Below w.heap.size w w' := by
  have HIW := Lib.hid (show (Tryd.prog.info? 27).map (·.size) = some (words ws).size by rw [words_size, hw]; kernel_rfl)
  have HIH := Lib.hid (fun (xs : List (BitVec 8)) (h : xs.length = 32) => (show (Tryd.prog.info? 32).map (·.size) = some (bytes xs).size by rw [bytes_size, h]; kernel_rfl))
  have hix := fun (i : Nat) (hi : i < 8) => run_index_row (P := Tryd.prog) (T := 27) (E := 25) Tryd.underlying27 Tryd.underlying25 rfl (by kernel_rfl) (words ws) (by rw [words_size]; exact hw) (i : Int) (by omega) (by omega)
  have HIX := Lib.hid hix
  have HW := Lib.hid hw
  obtain ⟨wb, hwb⟩ : ∃ wb, words ws = wb := ⟨_, rfl⟩
  rw [hwb] at HIX HIW ⊢
  have HWB := Lib.hid hwb
  clear hix hw hwb
  go_enter Tryd.func64, Tryd.ntmps64
  go_upto_region 1 with fail
  obtain ⟨X, hX, hBX, hXs, hX0, hX1⟩ := alloc2 w (.cells wb 27) (.cells (bytes (fill (Sha.tbyte ws) 0 32 0)) 32)
  have hX' := hX
  simp only [fill, bytes, List.range_zero, List.map_nil, List.nil_append, Nat.sub_zero, List.replicate, List.map] at hX'
  rw [show (Value.int .u8 (bv 0)) = .int .u8 0 from rfl] at hX'
  rw [hX']
  have H0 := Lib.hid hX0
  have H1 := Lib.hid hX1
  have HB := Lib.hid hBX
  clear hX hX' hBX hXs hX0 hX1
  go_upto_region 2 with (refine wpList_load_row rfl 27 (.tmp 1) rfl w.heap.size rfl _ _ _ _ H0.out Tryd.underlying27 rfl HIW.out ?_)
  clear H0
  go_loopw [7] (fun s wr => ∃ k : Nat, k ≤ 8 ∧ s = .int .i64 k ∧ Hid (wr.heap[w.heap.size + 1]? = some (.cells (bytes (fill (Sha.tbyte ws) 0 32 (4 * k))) 32 (0, 0))) ∧ Hid (Below w.heap.size w wr)) (fun s _ => 8 - (intOf s).toNat)
  case atStart => exact ⟨0, by omega, rfl, H1, HB⟩
  case round =>
    clear H1 HB
    obtain ⟨k, hk, rfl, H1, HB⟩ := hrel
    by_cases hlt : k < 8
    · have hx := fun (W : World) => HIX.out k hlt W
      rw [← HWB.out, Int.toNat_natCast, Array.getD_eq_getD_getElem?, words_get? ws k (by rw [HW.out]; exact hlt), Option.getD_some, HWB.out] at hx
      have hfl := Lib.hid (fill_length (Sha.tbyte ws) 0 32 (4 * k) (by omega))
      have hO := fun j (hj : j < 4) => (cell_of_row wr (w.heap.size + 1) (4 * k + j) _ _ _ H1.out).trans (bytes_get? _ (4 * k + j) (by rw [hfl.out]; omega))
      have o0 := (cell_of_row wr (w.heap.size + 1) (4 * k) _ _ _ H1.out).trans (bytes_get? _ (4 * k) (by rw [hfl.out]; omega))
      have o1 := hO 1 (by omega)
      have o2 := hO 2 (by omega)
      have o3 := hO 3 (by omega)
      have f0 := frozen_of_row wr (w.heap.size + 1) (4 * k) _ _ H1.out
      have f1 := frozen_of_row wr (w.heap.size + 1) (4 * k + 1) _ _ H1.out
      have f2 := frozen_of_row wr (w.heap.size + 1) (4 * k + 2) _ _ H1.out
      have f3 := frozen_of_row wr (w.heap.size + 1) (4 * k + 3) _ _ H1.out
      generalize (fill (Sha.tbyte ws) 0 32 (4 * k)).getD (4 * k) 0 = z0 at o0
      generalize (fill (Sha.tbyte ws) 0 32 (4 * k)).getD (4 * k + 1) 0 = z1 at o1
      generalize (fill (Sha.tbyte ws) 0 32 (4 * k)).getD (4 * k + 2) 0 = z2 at o2
      generalize (fill (Sha.tbyte ws) 0 32 (4 * k)).getD (4 * k + 3) 0 = z3 at o3
      have HT := Lib.hid (Sha.tbyte_at ws k)
      have HF := Lib.hid (fun j (h : j < 32) => fill_set (Sha.tbyte ws) 0 32 j h)
      clear hO
      generalize ws.getD k 0 = x at hx HT
      go_wp2
      refine wp_loop_rounds 5 ?_
      iterate 5
        rw [rounds_succ]
        go_wp2
      have HS : ∀ (u : World) (j o : Nat) (v : Int), j < 4 → o = 4 * k + j → v = bv (Sha.byteOf x j) → u.heap[w.heap.size + 1]? = some (.cells (bytes (fill (Sha.tbyte ws) 0 32 (4 * k + j))) 32 (0, 0)) →
          (u.setCell ⟨w.heap.size + 1, o, none⟩ (.int .u8 v)).heap[w.heap.size + 1]? = some (.cells (bytes (fill (Sha.tbyte ws) 0 32 (4 * k + (j + 1)))) 32 (0, 0)) := by
        intro u j o v hj ho hv hu
        subst ho
        have h := heap_setCell_same u (w.heap.size + 1) (4 * k + j) _ _ (.int .u8 v) hu
        rw [hv, bytes_set, ← HT.out j hj, HF.out _ (by omega)] at h
        rw [hv, ← HT.out j hj]
        exact h
      refine ⟨⟨k + 1, by omega, by go_num, ?_, ?_⟩, by simp [intOf]; omega⟩
      · rw [show 4 * (k + 1) = 4 * k + (3 + 1) by omega]
        refine Lib.hid ?_
        refine HS _ 3 _ _ (by omega) (by omega) (by simp [Sha.byteOf]) ?_
        refine HS _ 2 _ _ (by omega) (by omega) (sbyteOf_div x 2) ?_
        refine HS _ 1 _ _ (by omega) (by omega) (sbyteOf_div x 1) ?_
        refine HS _ 0 _ _ (by omega) (by omega) (sbyteOf_div x 0) ?_
        exact H1.out
      · refine Lib.hid ?_
        repeat (first | with_reducible exact HB.out | with_reducible refine Below.setCell ?_ (by show w.heap.size ≤ w.heap.size + 1; omega) _)
    · obtain rfl : k = 8 := by omega
      rw [show 4 * 8 = 32 from rfl, fill_all, ← Sha.told_eq] at H1
      have hI := Lib.hid (HIH.out (Sha.told ws) (Sha.told_length ws))
      go_wp2_with (first
        | (refine wpList_load_row rfl 32 (.tmp 2) rfl (w.heap.size + 1) rfl _ _ _ _ H1.out Tryd.underlying32 rfl hI.out ?_)
        | (refine wpList_store_row rfl 32 (.tmp 2) (.tmp 27) rfl (w.heap.size + 1) _ rfl rfl _ _ H1.out hI.out rfl (bytes_one _) ?_; rw [setRow_self _ _ _ _ _ H1.out]))
      exact bodyPost_ret (results_cell_row Tryd.results64 _ _ (w.heap.size + 1) _ _ _ _ rfl H1.out Tryd.underlying32 rfl hI.out) rfl ⟨rfl, HB.out⟩
end Go.Proofs.YtnoilogepkelaaaDoor
