/-
  chacha.Block: the sixty-four bytes of a key, a counter and a nonce.
-/
import Derived.Test.YtnoilogepkelaaaChaB
import Derived.Test.YtnoilogepkelaaaChaD
import Derived.Deep.WholeRow
namespace Go.Proofs.Ytnoilogepkelaaa
set_option linter.unusedVariables false
set_option linter.unusedSimpArgs false
open Go Go.RowKit
attribute [local go_sem] u32_add u32_sub u32_xor u32_or u32_and' u32_shl u32_shr u32_shr8 u32_shr16 u32_shr24 u32_to_u8

theorem byteOf_div (x : BitVec 32) (j : Nat) : wv x / (2 ^ (8 * j) : Nat) % 256 = bv (Cha.byteOf x j) := by
  simp only [wv, bv, Cha.byteOf, BitVec.toNat_setWidth, BitVec.toNat_ushiftRight, Nat.shiftRight_eq_div_pow]
  omega

set_option maxHeartbeats 1000000 in
theorem block_any (key nonce : List (BitVec 8)) (c : BitVec 32) (w : World) (hk : key.length = 32) (hn : nonce.length = 12) :
    Calls Try.prog 12 #[.agg (bytes key), .int .u32 (wv c), .agg (bytes nonce)] w fun e w' => e = .returned (.agg (bytes (Cha.block key c nonce))) ∧ Below w.heap.size w w' := by
  have HCALL := Lib.hid (fun w => begin_any key nonce c w hk hn)
  have HIK := Lib.hid (show (Try.prog.info? 29).map (·.size) = some (bytes key).size by rw [bytes_size, hk]; kernel_rfl)
  have HIN := Lib.hid (show (Try.prog.info? 31).map (·.size) = some (bytes nonce).size by rw [bytes_size, hn]; kernel_rfl)
  have HL0 := Lib.hid (Cha.begin_length key c nonce)
  have HBL := Lib.hid (show Cha.block key c nonce = (List.range 64).map (Cha.outByte (Cha.rounds (Cha.begin key c nonce) 10) (Cha.begin key c nonce)) from rfl)
  generalize Cha.block key c nonce = blk at HBL ⊢
  generalize Cha.begin key c nonce = s0 at HCALL HL0 HBL
  generalize bytes key = kb at HCALL HIK ⊢
  generalize bytes nonce = nb at HCALL HIN ⊢
  have HI := Lib.hid (fun (s : List (BitVec 32)) (h : s.length = 16) => (show (Try.prog.info? 55).map (·.size) = some (words s).size by rw [words_size, h]; kernel_rfl))
  clear hk hn
  go_enter Try.func12, Try.ntmps12
  go_upto_region 1 with fail
  obtain ⟨W, hW, hBW, hWs, hWk, hWn, hWo⟩ := alloc3 w (Obj.cells kb 29) (Obj.cells nb 31) (Obj.cells (bytes (List.replicate 64 0)) 34)
  have hW' := hW
  simp only [bytes, List.replicate, List.map] at hW'
  rw [show (Value.int .u8 (bv 0)) = .int .u8 0 from rfl] at hW'
  rw [hW']
  have HWk := Lib.hid hWk
  have HWn := Lib.hid hWn
  have HWo := Lib.hid hWo
  have hz1 : w.heap.size + 2 < W.heap.size := by omega
  clear hWk hWn hWs hWo hW hW'
  go_wp2_with (first
    | (refine wpList_load_row rfl 29 (.tmp 3) rfl (w.heap.size) rfl _ _ _ _ HWk.out Try.underlying29 rfl HIK.out ?_)
    | (refine wpList_load_row rfl 31 (.tmp 5) rfl (w.heap.size + 1) rfl _ _ _ _ HWn.out Try.underlying31 rfl HIN.out ?_)
    | (go_at_call 19; refine (HCALL.out _).mono ?_; rintro e w1 ⟨rfl, hb1⟩)
    | (refine wpList_store_row rfl 55 (.tmp 7) (.tmp 15) rfl _ _ rfl rfl _ _ (heap_alloc_new _ _) (HI.out _ HL0.out) (by rw [words_size, HL0.out]; rfl) (words_one _) ?_; rw [World.setRow_alloc_new])
    | (refine wpList_load_row rfl 55 (.tmp 7) rfl _ rfl _ _ _ _ (heap_alloc_new _ _) Try.underlying55 rfl (HI.out _ HL0.out) ?_)
    | (refine wpList_store_row rfl 55 (.tmp 8) (.tmp 16) rfl _ _ rfl rfl _ _ (heapA_new _ _ _ (by simp)) (HI.out _ HL0.out) (by rw [words_size, HL0.out]; rfl) (words_one _) ?_; rw [setRow_at _ _ _ _ _ (by simp)]))
  obtain ⟨X, hX, hBX, hXs, hX0, hX1⟩ := alloc2 w1 (Obj.cells (words s0) 55) (Obj.cells (words s0) 55)
  rw [hX]
  have hOX := (hBX.block (w.heap.size + 2) (by have := hb1.size; omega)).trans ((hb1.block (w.heap.size + 2) hz1).trans HWo.out)
  have hwX := (hBW.trans (hb1.mono (by omega))).trans (hBX.mono (by have := hb1.size; omega))
  have H0 := Lib.hid hX0
  have H1 := Lib.hid hX1
  have HO := Lib.hid hOX
  have hw1 : w.heap.size + 3 ≤ w1.heap.size := by have := hb1.size; omega
  generalize w1.heap.size = D at H0 H1 hw1 hXs ⊢
  have hz2 : D + 2 ≤ X.heap.size := by omega
  clear hX hBX hX0 hX1 hOX hb1 hBW HWo HWk HWn hz1 hXs
  go_loopw [17] (fun i wr => ∃ k : Nat, k ≤ 10 ∧ i = .int .i64 k ∧ Hid (wr.heap[D + 1]? = some (.cells (words (Cha.rounds s0 k)) 55 (0, 0))) ∧ Hid (wr.heap[D]? = some (.cells (words s0) 55 (0, 0))) ∧
      Hid (wr.heap[w.heap.size + 2]? = some (.cells (bytes (List.replicate 64 0)) 34 (0, 0))) ∧ Below w.heap.size w wr ∧ D + 2 ≤ wr.heap.size) (fun i _ => 10 - (intOf i).toNat)
  case atStart => exact ⟨0, by omega, rfl, H1, H0, HO, hwX, hz2⟩
  case round =>
    obtain ⟨k, hk, rfl, HE, HD, HZ, hbk, hzk⟩ := hrel
    by_cases hlt : k < 10
    · go_wp2_with (go_at_call 20; refine (double_any (D + 1) _ _ ((Cha.rounds_length s0 k).trans HL0.out) HE.out).mono ?_; rintro e w2 ⟨rfl, hE2, hg2⟩)
      have HE2 := Lib.hid hE2
      clear hE2
      go_roundw
      case rel =>
        refine ⟨k + 1, by omega, by go_num, HE2.out, (hg2.block D (by omega) (by simp)).trans HD.out, (hg2.block (w.heap.size + 2) (by omega) (by simp; omega)).trans HZ.out, ?_, by have := hg2.size; omega⟩
        exact hbk.grown hg2 (by have := hbk.size; omega) (by intro j hj; simp at hj; omega)
      case measure => simp [intOf]; omega
    · obtain rfl : k = 10 := by omega
      have HLs := Lib.hid ((Cha.rounds_length s0 10).trans HL0.out)
      generalize Cha.rounds s0 10 = s at HE HBL HLs
      go_wp2_with (refine wpList_load_row rfl 55 (.tmp 8) rfl (D + 1) rfl _ _ _ _ HE.out Try.underlying55 rfl (HI.out _ HLs.out) ?_)
      go_loopw [22] (fun i wr => ∃ k : Nat, k ≤ 16 ∧ i = .int .i64 k ∧ Hid (wr.heap[D]? = some (.cells (words s0) 55 (0, 0))) ∧
          Hid (wr.heap[w.heap.size + 2]? = some (.cells (bytes (fill (Cha.outByte s s0) 0 64 (4 * k))) 34 (0, 0))) ∧ Below w.heap.size w wr) (fun i _ => 16 - (intOf i).toNat)
      case atStart => exact ⟨0, by omega, rfl, HD, HZ, hbk⟩
      case round =>
        clear HE HD HZ hbk hzk
        obtain ⟨k, hk, rfl, HD, HZ, hbk⟩ := hrel
        by_cases hlt : k < 16
        · have hix := run_index_row (P := Try.prog) Try.underlying55 Try.underlying22 rfl (by kernel_rfl) (words s) (by rw [words_size]; exact HLs.out) (k : Int) (by omega) (by omega)
          rw [Int.toNat_natCast, Array.getD_eq_getD_getElem?, words_get? s k (by rw [HLs.out]; exact hlt), Option.getD_some] at hix
          have hc := (cell_of_row _ D k _ _ _ HD.out).trans (words_get? s0 k (by rw [HL0.out]; exact hlt))
          have hfl := Lib.hid (fill_length (Cha.outByte s s0) 0 64 (4 * k) (by omega))
          have hO := fun j (hj : j < 4) => (cell_of_row wr (w.heap.size + 2) (4 * k + j) _ _ _ HZ.out).trans (bytes_get? _ (4 * k + j) (by rw [hfl.out]; omega))
          have o0 := (cell_of_row wr (w.heap.size + 2) (4 * k) _ _ _ HZ.out).trans (bytes_get? _ (4 * k) (by rw [hfl.out]; omega))
          have o1 := hO 1 (by omega)
          have o2 := hO 2 (by omega)
          have o3 := hO 3 (by omega)
          have f0 := frozen_of_row wr (w.heap.size + 2) (4 * k) _ _ HZ.out
          have f1 := frozen_of_row wr (w.heap.size + 2) (4 * k + 1) _ _ HZ.out
          have f2 := frozen_of_row wr (w.heap.size + 2) (4 * k + 2) _ _ HZ.out
          have f3 := frozen_of_row wr (w.heap.size + 2) (4 * k + 3) _ _ HZ.out
          generalize (fill (Cha.outByte s s0) 0 64 (4 * k)).getD (4 * k) 0 = z0 at o0
          generalize (fill (Cha.outByte s s0) 0 64 (4 * k)).getD (4 * k + 1) 0 = z1 at o1
          generalize (fill (Cha.outByte s s0) 0 64 (4 * k)).getD (4 * k + 2) 0 = z2 at o2
          generalize (fill (Cha.outByte s s0) 0 64 (4 * k)).getD (4 * k + 3) 0 = z3 at o3
          have HB := Lib.hid (Cha.outByte_at s s0 k)
          have HF := Lib.hid (fun j (h : j < 64) => fill_set (Cha.outByte s s0) 0 64 j h)
          clear hO
          generalize s.getD k 0 = x at hix HB
          generalize s0.getD k 0 = y at hc HB
          have hDO : ¬ w.heap.size + 2 = D := by omega
          go_wp2
          refine wp_loop_rounds 5 ?_
          iterate 5
            rw [rounds_succ]
            go_wp2
          have HS : ∀ (u : World) (j o : Nat) (v : Int), j < 4 → o = 4 * k + j → v = bv (Cha.byteOf (x + y) j) → u.heap[w.heap.size + 2]? = some (.cells (bytes (fill (Cha.outByte s s0) 0 64 (4 * k + j))) 34 (0, 0)) →
              (u.setCell ⟨w.heap.size + 1 + 1, o, none⟩ (.int .u8 v)).heap[w.heap.size + 2]? = some (.cells (bytes (fill (Cha.outByte s s0) 0 64 (4 * k + (j + 1)))) 34 (0, 0)) := by
            intro u j o v hj ho hv hu
            subst ho
            have h := heap_setCell_same u (w.heap.size + 2) (4 * k + j) _ _ (.int .u8 v) hu
            rw [hv, bytes_set, ← HB.out j hj, HF.out _ (by omega)] at h
            rw [hv, ← HB.out j hj]
            exact h
          refine ⟨⟨k + 1, by omega, by go_num, ?_, ?_, ?_⟩, by simp [intOf]; omega⟩
          · rw [heap_setCell_other _ _ _ _ (by simp; omega), heap_setCell_other _ _ _ _ (by simp; omega), heap_setCell_other _ _ _ _ (by simp; omega), heap_setCell_other _ _ _ _ (by simp; omega)]
            exact HD
          · rw [show 4 * (k + 1) = 4 * k + (3 + 1) by omega]
            refine Lib.hid ?_
            refine HS _ 3 _ _ (by omega) (by omega) (byteOf_div (x + y) 3) ?_
            refine HS _ 2 _ _ (by omega) (by omega) (byteOf_div (x + y) 2) ?_
            refine HS _ 1 _ _ (by omega) (by omega) (byteOf_div (x + y) 1) ?_
            refine HS _ 0 _ _ (by omega) (by omega) (by simp [Cha.byteOf]) ?_
            exact HZ.out
          · repeat (first | with_reducible exact hbk | with_reducible refine Below.setCell ?_ (by show w.heap.size ≤ w.heap.size + 1 + 1; omega) _)
        · obtain rfl : k = 16 := by omega
          rw [show 4 * 16 = 64 from rfl, fill_all, ← HBL.out] at HZ
          have hbl : blk.length = 64 := by rw [HBL.out]; simp
          have hi := Lib.hid (show (Try.prog.info? 34).map (·.size) = some (bytes blk).size by rw [bytes_size, hbl]; kernel_rfl)
          go_wp2_with (first
            | (refine wpList_load_row rfl 34 (.tmp 6) rfl (w.heap.size + 1 + 1) rfl _ _ _ _ HZ.out Try.underlying34 rfl hi.out ?_)
            | (refine wpList_store_row rfl 34 (.tmp 6) (.tmp 46) rfl (w.heap.size + 1 + 1) _ rfl rfl _ _ HZ.out hi.out rfl (bytes_one _) ?_; rw [setRow_self _ _ _ _ _ HZ.out]))
          exact bodyPost_ret (results_cell_row Try.results12 _ _ (w.heap.size + 1 + 1) _ _ _ _ rfl HZ.out Try.underlying34 rfl hi.out) rfl ⟨rfl, hbk⟩
end Go.Proofs.Ytnoilogepkelaaa
