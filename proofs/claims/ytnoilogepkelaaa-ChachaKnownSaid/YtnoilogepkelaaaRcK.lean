/-
  The document's answer for chacha: Block.
-/
import Derived.Test.YtnoilogepkelaaaRcB
import Derived.Test.YtnoilogepkelaaaChaK
import Derived.Laws.CopyOwn
import Derived.Laws.Tables
namespace Go.Proofs.Ytnoilogepkelaaa
set_option linter.unusedVariables false
set_option linter.unusedSimpArgs false
open Go Go.RowKit
attribute [local go_sem] u32_add

theorem double_eq (xs : List (BitVec 32)) : Cha.double xs = Cha.qstep (Cha.qstep (Cha.qstep (Cha.qstep (Cha.qstep (Cha.qstep (Cha.qstep (Cha.qstep xs 0 4 8 12) 1 5 9 13) 2 6 10 14) 3 7 11 15) 0 5 10 15) 1 6 11 12) 2 7 8 13) 3 4 9 14 := rfl

theorem rround_at (p q r s : Int) (v : Value) (xs : List (BitVec 32)) (w : World) (h : SlW w v xs) (hl : xs.length = 16) (hp0 : 0 ≤ p) (hp : p < 4) (hq0 : 4 ≤ q) (hq : q < 8) (hr0 : 8 ≤ r) (hr : r < 12) (hs0 : 12 ≤ s) (hs : s < 16) :
    Calls Try.prog 22 #[v, .int .i64 p, .int .i64 q, .int .i64 r, .int .i64 s] w fun e w' => ∃ v', e = .returned v' ∧ SlW w' v' (Cha.qstep xs p.toNat q.toNat r.toNat s.toNat) ∧ Below w.heap.size w w' := by
  obtain ⟨P, rfl⟩ := Int.eq_ofNat_of_zero_le hp0
  obtain ⟨Q, rfl⟩ := Int.eq_ofNat_of_zero_le (show 0 ≤ q by omega)
  obtain ⟨R, rfl⟩ := Int.eq_ofNat_of_zero_le (show 0 ≤ r by omega)
  obtain ⟨S, rfl⟩ := Int.eq_ofNat_of_zero_le (show 0 ≤ s by omega)
  refine (rround_any v xs w h hl P Q R S (by omega) (by omega) (by omega) (by omega) (by omega) (by omega) (by omega)).mono ?_
  rintro e w' ⟨v', rfl, ho, hb⟩
  exact ⟨v', rfl, ho.sl, hb⟩

set_option maxHeartbeats 1000000 in
theorem rblock_any (key nonce : List (BitVec 8)) (c : BitVec 32) (w : World) (hk : key.length = 32) (hn : nonce.length = 12) :
    Calls Try.prog 13 #[.agg (bytes key), .int .u32 (wv c), .agg (bytes nonce)] w fun e w' => e = .returned (.agg (bytes (Cha.block key c nonce))) ∧ Below w.heap.size w w' := by
  have HCALL := Lib.hid (fun w => rfirst_any key nonce c w hk hn)
  have HIK := Lib.hid (show (Try.prog.info? 29).map (·.size) = some (bytes key).size by rw [bytes_size, hk]; kernel_rfl)
  have HIN := Lib.hid (show (Try.prog.info? 30).map (·.size) = some (bytes nonce).size by rw [bytes_size, hn]; kernel_rfl)
  have HL0 := Lib.hid (Cha.begin_length key c nonce)
  have HBL := Lib.hid (show Cha.block key c nonce = (List.range 64).map (Cha.outByte (Cha.rounds (Cha.begin key c nonce) 10) (Cha.begin key c nonce)) from rfl)
  generalize Cha.block key c nonce = blk at HBL ⊢
  generalize Cha.begin key c nonce = s0 at HCALL HL0 HBL
  generalize bytes key = kb at HCALL HIK ⊢
  generalize bytes nonce = nb at HCALL HIN ⊢
  clear hk hn
  go_enter Try.func13, Try.ntmps13
  go_upto_region 1 with fail
  obtain ⟨W, hW, hBW, hWs, hWk, hWn, hWo⟩ := alloc3 w (Obj.cells kb 29) (Obj.cells nb 30) (Obj.cells (bytes (List.replicate 64 0)) 34)
  have hW' := hW
  simp only [bytes, List.replicate, List.map] at hW'
  rw [show (Value.int .u8 (bv 0)) = .int .u8 0 from rfl] at hW'
  rw [hW']
  have HWk := Lib.hid hWk
  have HWn := Lib.hid hWn
  have HWo := Lib.hid hWo
  have hz1 : w.heap.size + 2 < W.heap.size := by omega
  clear hWk hWn hWs hWo hW hW'
  go_wp2_with (first
    | (refine wpList_load_row rfl 29 (.tmp 3) rfl (w.heap.size) rfl _ _ _ _ HWk.out Try.underlying29 rfl HIK.out ?_)
    | (refine wpList_load_row rfl 30 (.tmp 5) rfl (w.heap.size + 1) rfl _ _ _ _ HWn.out Try.underlying30 rfl HIN.out ?_)
    | (go_at_call 21; refine (HCALL.out _).mono ?_; rintro e w1 ⟨v1, rfl, ho1, hb1⟩))
  have hs1 := ho1.sl
  obtain ⟨a1, cap1, ev1⟩ := hs1.len
  have hOX := Lib.hid ((hb1.block (w.heap.size + 2) hz1).trans HWo.out)
  have hwX := hBW.trans (hb1.mono (by omega))
  have hz2 : w.heap.size + 3 ≤ w1.heap.size := by have := hb1.size; omega
  clear hb1 hBW HWo HWk HWn hz1 ho1 ev1
  go_loopw [8, 9] (fun s i wr => ∃ k : Nat, k ≤ 10 ∧ i = .int .i64 k ∧ SlW wr s (Cha.rounds s0 k) ∧ SlW wr v1 s0 ∧ Hid (wr.heap[w.heap.size + 2]? = some (.cells (bytes (List.replicate 64 0)) 34 (0, 0))) ∧
      Below w.heap.size w wr ∧ w.heap.size + 3 ≤ wr.heap.size) (fun _ i _ => 10 - (intOf i).toNat)
  case atStart => exact ⟨0, by omega, rfl, hs1, hs1, hOX, hwX, hz2⟩
  case round =>
    clear hs1 hOX hwX hz2
    obtain ⟨k, hk, rfl, g0, h1, HZ, hbk, hzk⟩ := hrel
    by_cases hlt : k < 10
    · have HLX := Lib.hid ((Cha.rounds_length s0 k).trans HL0.out)
      have b0 := Below.refl wr.heap.size wr
      generalize hxs : Cha.rounds s0 k = xs at g0 HLX
      have HXS := Lib.hid hxs
      clear hxs
      go_wp2_with (first
        | (go_at_call 22
           refine Calls.mono (rround_at _ _ _ _ _ _ _ g0 (by first | (simp only [Cha.qstep_length]; exact HLX.out) | exact HLX.out) (by omega) (by omega) (by omega) (by omega) (by omega) (by omega) (by omega) (by omega)) ?_
           rintro e w2 ⟨v2, rfl, g', b'⟩
           replace b0 := b0.trans (b'.mono b0.size)
           clear b' g0
           have g0 := g'
           clear g'))
      have hbl := b0
      go_roundw
      case rel =>
        refine ⟨k + 1, by omega, by go_num, ?_, h1.below hbl (Nat.le_refl _), (hbl.block (w.heap.size + 2) (by omega)).trans HZ.out, hbk.trans (hbl.mono (by omega)), by have := hbl.size; omega⟩
        show SlW _ _ (Cha.double (Cha.rounds s0 k))
        rw [HXS.out, double_eq]
        exact g0
      case measure => simp [intOf]; omega
    · rw [show (k : Int) = 10 from by omega]
      obtain rfl : k = 10 := by omega
      have HLs := Lib.hid ((Cha.rounds_length s0 10).trans HL0.out)
      generalize Cha.rounds s0 10 = s at g0 HBL HLs
      obtain ⟨bs, os, cs, rfl, hcs, hbs⟩ := g0.open_ 16 HLs.out (by decide)
      obtain ⟨bf, of, cf, rfl, hcf, hbf⟩ := h1.open_ 16 HL0.out (by decide)
      go_upto_region 15 with fail
      obtain ⟨X, hX, hBX, hXs, hXD⟩ := alloc1 wr (Obj.cells (bytes (List.replicate 64 0)) 34)
      have hX' := hX
      simp only [bytes, List.replicate, List.map] at hX'
      rw [show (Value.int .u8 (bv 0)) = .int .u8 0 from rfl] at hX'
      rw [hX']
      have HZ' := Lib.hid ((hBX.block (w.heap.size + 2) (by omega)).trans HZ.out)
      have HD := Lib.hid hXD
      have gs := g0.below hBX (Nat.le_refl _)
      have gf := h1.below hBX (Nat.le_refl _)
      have hwX := hbk.trans (hBX.mono (by omega))
      have hzX : wr.heap.size < X.heap.size := by omega
      have hwD : w.heap.size + 3 ≤ wr.heap.size := hzk
      clear hX hX' hBX hXs hXD g0 h1 HZ hbk hzk
      generalize wr.heap.size = D at *
      go_wp2
      go_loopw [11, 12, 13] (fun i _ _ wr => ∃ k : Nat, k ≤ 16 ∧ i = .int .i64 k ∧ Hid (wr.heap[D]? = some (.cells (bytes (fill (Cha.outByte s s0) 0 64 (4 * k))) 34 (0, 0))) ∧ Hid (wr.heap[w.heap.size + 2]? = some (.cells (bytes (List.replicate 64 0)) 34 (0, 0))) ∧
          SlW wr (.slice (some ⟨bs, os, none⟩) 16 cs) s ∧ SlW wr (.slice (some ⟨bf, of, none⟩) 16 cf) s0 ∧ Below w.heap.size w wr) (fun i _ _ _ => 16 - (intOf i).toNat)
      case atStart => exact ⟨0, by omega, rfl, by rw [Nat.mul_zero, fill_zero]; exact HD, HZ', gs, gf, hwX⟩
      case round =>
        clear HD HZ' gs gf hwX hzX
        obtain ⟨k, hk, rfl, HD, HZ, gs, gf, hbk⟩ := hrel
        by_cases hlt : k < 16
        · have c1 := gs.cell k (by rw [HLs.out]; exact hlt)
          have c2 := gf.cell k (by rw [HL0.out]; exact hlt)
          unfold wordV at c1 c2
          have hfl := Lib.hid (fill_length (Cha.outByte s s0) 0 64 (4 * k) (by omega))
          have hO := fun j (hj : j < 4) => (cell_of_row wr D (4 * k + j) _ _ _ HD.out).trans (bytes_get? _ (4 * k + j) (by rw [hfl.out]; omega))
          have o0 := (cell_of_row wr D (4 * k) _ _ _ HD.out).trans (bytes_get? _ (4 * k) (by rw [hfl.out]; omega))
          have o1 := hO 1 (by omega)
          have o2 := hO 2 (by omega)
          have o3 := hO 3 (by omega)
          have f0 := frozen_of_row wr D (4 * k) _ _ HD.out
          have f1 := frozen_of_row wr D (4 * k + 1) _ _ HD.out
          have f2 := frozen_of_row wr D (4 * k + 2) _ _ HD.out
          have f3 := frozen_of_row wr D (4 * k + 3) _ _ HD.out
          generalize (fill (Cha.outByte s s0) 0 64 (4 * k)).getD (4 * k) 0 = z0 at o0
          generalize (fill (Cha.outByte s s0) 0 64 (4 * k)).getD (4 * k + 1) 0 = z1 at o1
          generalize (fill (Cha.outByte s s0) 0 64 (4 * k)).getD (4 * k + 2) 0 = z2 at o2
          generalize (fill (Cha.outByte s s0) 0 64 (4 * k)).getD (4 * k + 3) 0 = z3 at o3
          have HB := Lib.hid (Cha.outByte_at s s0 k)
          have HF := Lib.hid (fun j (h : j < 64) => fill_set (Cha.outByte s s0) 0 64 j h)
          clear hO
          generalize s.getD k 0 = x at c1 HB
          generalize s0.getD k 0 = y at c2 HB
          have hDs : ¬ D = bs := by omega
          have hDf : ¬ D = bf := by omega
          have ik : (k : Int) < 16 := by omega
          go_wp2
          go_quiet (fail)
          go_wp2
          refine wp_loop_rounds 5 ?_
          iterate 5
            rw [rounds_succ]
            go_wp2
          have HS : ∀ (u : World) (j o : Nat) (v : Int), j < 4 → o = 4 * k + j → v = bv (Cha.byteOf (x + y) j) → u.heap[D]? = some (.cells (bytes (fill (Cha.outByte s s0) 0 64 (4 * k + j))) 34 (0, 0)) →
              (u.setCell ⟨D, o, none⟩ (.int .u8 v)).heap[D]? = some (.cells (bytes (fill (Cha.outByte s s0) 0 64 (4 * k + (j + 1)))) 34 (0, 0)) := by
            intro u j o v hj ho hv hu
            subst ho
            have h := heap_setCell_same u D (4 * k + j) _ _ (.int .u8 v) hu
            rw [hv, bytes_set, ← HB.out j hj, HF.out _ (by omega)] at h
            rw [hv, ← HB.out j hj]
            exact h
          have h0 := wv_nonneg (x + y)
          have h1 := wv_lt (x + y)
          have B0 := byteOf_div (x + y) 0
          have B1 := byteOf_div (x + y) 1
          have B2 := byteOf_div (x + y) 2
          have B3 := byteOf_div (x + y) 3
          simp at B0 B1 B2 B3
          rw [Int.tmod_eq_emod_of_nonneg h0, Int.tdiv_eq_ediv_of_nonneg h0]
          have hs1 : bs ≠ D := by omega
          have hs2 : bf ≠ D := by omega
          refine ⟨⟨k + 1, by omega, by go_num, ?_, ?_, ?_, ?_, ?_⟩, by simp [intOf]; omega⟩
          · rw [show 4 * (k + 1) = 4 * k + (3 + 1) by omega]
            refine Lib.hid ?_
            refine HS _ 3 _ _ (by omega) (by omega) (by omega) ?_
            refine HS _ 2 _ _ (by omega) (by omega) (by omega) ?_
            refine HS _ 1 _ _ (by omega) (by omega) (by omega) ?_
            refine HS _ 0 _ _ (by omega) (by omega) (by omega) ?_
            exact HD.out
          · rw [heap_setCell_other _ _ _ _ (by simp; omega), heap_setCell_other _ _ _ _ (by simp; omega), heap_setCell_other _ _ _ _ (by simp; omega), heap_setCell_other _ _ _ _ (by simp; omega)]
            exact HZ
          · exact ((((gs.drewN _).setCell hs1 _).setCell hs1 _).setCell hs1 _).setCell hs1 _
          · exact ((((gf.drewN _).setCell hs2 _).setCell hs2 _).setCell hs2 _).setCell hs2 _
          · repeat (first | with_reducible exact hbk | with_reducible refine Below.drewN ?_ _ | with_reducible refine Below.setCell ?_ (by show w.heap.size ≤ D; omega) _)
        · obtain rfl : k = 16 := by omega
          rw [show 4 * 16 = 64 from rfl, fill_all, ← HBL.out] at HD
          have hbl : blk.length = 64 := by rw [HBL.out]; simp
          have hi := Lib.hid (show (Try.prog.info? 34).map (·.size) = some (bytes blk).size by rw [bytes_size, hbl]; kernel_rfl)
          have hwz := hbk.size
          go_wp2_with (first
            | (refine wpList_load_row rfl 34 (.tmp 10) rfl D rfl _ _ _ _ HD.out Try.underlying34 rfl hi.out ?_)
            | (refine wpList_store_row rfl 34 (.tmp 6) (.tmp 66) rfl (w.heap.size + 1 + 1) _ rfl rfl _ _ HZ.out hi.out (by rw [bytes_size, bytes_size, hbl]; rfl) (bytes_one _) ?_))
          have hfin := Lib.hid (setRow_heap wr (w.heap.size + 1 + 1) _ (bytes blk) _ _ HZ.out)
          exact bodyPost_ret (results_cell_row Try.results13 _ _ (w.heap.size + 1 + 1) _ _ _ _ rfl hfin.out Try.underlying34 rfl hi.out) rfl ⟨rfl, below_setRow hbk (by omega) _⟩
end Go.Proofs.Ytnoilogepkelaaa
