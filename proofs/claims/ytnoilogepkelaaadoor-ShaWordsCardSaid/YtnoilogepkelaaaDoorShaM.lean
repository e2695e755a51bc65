/-
  sha.Start and sha.Mix: the constants at first; words mixed with a block.
-/
import Derived.Test.YtnoilogepkelaaaDoorShaA
import Derived.Test.YtnoilogepkelaaaDoorShaP
namespace Go.Proofs.YtnoilogepkelaaaDoor
set_option linter.unusedVariables false
set_option linter.unusedSimpArgs false
open Go Go.RowKit
attribute [local go_sem] u32_add u32_sub u32_xor u32_or u32_and' u32_shl u32_shr

/-- The package's two tables, as the text lays them. -/
structure Glob (w : World) : Prop where
  starts : ∃ t fr, w.heap[0]? = some (.cells (words Sha.starts) t fr)
  adds : ∃ t fr, w.heap[1]? = some (.cells (words Sha.adds) t fr)
theorem Glob.size {w : World} (h : Glob w) : 2 ≤ w.heap.size := by obtain ⟨t, fr, h1⟩ := h.adds; have := (Array.getElem?_eq_some_iff.1 h1).1; omega
theorem Glob.below {w w' : World} {B : Nat} (h : Glob w) (hb : Below B w w') (hB : 2 ≤ B) : Glob w' := by
  obtain ⟨⟨t, fr, h0⟩, t', fr', h1⟩ := h
  exact ⟨⟨t, fr, (hb.block 0 (by omega)).trans h0⟩, t', fr', (hb.block 1 (by omega)).trans h1⟩

set_option maxRecDepth 100000 in
theorem start_any (w : World) (hG : Glob w) : Calls Tryd.prog 25 #[] w fun e w' => e = .returned (.agg (words Sha.starts)) ∧ Below w.heap.size w w' := by
  obtain ⟨t, fr, h0⟩ := hG.starts
  have HI := Lib.hid (show (Tryd.prog.info? 27).map (·.size) = some (words Sha.starts).size by kernel_rfl)
  have hsz := hG.size
  have H0 := Lib.hid ((heapA_old w (.cells #[.int .u32 0, .int .u32 0, .int .u32 0, .int .u32 0, .int .u32 0, .int .u32 0, .int .u32 0, .int .u32 0] 27) 0 (by omega)).trans h0)
  clear h0
  go_enter Tryd.func25, Tryd.ntmps25
  go_wp2_with (first
    | (refine wpList_load_row rfl 27 (.global 0) rfl 0 rfl _ _ _ _ H0.out Tryd.underlying27 rfl HI.out ?_)
    | (refine wpList_store_row rfl 27 (.tmp 0) (.tmp 1) rfl _ _ rfl rfl _ _ (heap_alloc_new _ _) HI.out rfl (words_one _) ?_; rw [World.setRow_alloc_new]))
  exact bodyPost_ret (results_cell_row Tryd.results25 _ _ w.heap.size _ _ _ _ rfl (heap_alloc_new _ _) Tryd.underlying27 rfl HI.out) rfl ⟨rfl, (Below.refl _ w).alloc (Nat.le_refl _) _⟩

/-- What Mix holds between its rounds: the words, the result's cells, the ring. -/
structure MixI (w : World) (O R : Nat) (ws r : List (BitVec 32)) (wr : World) : Prop where
  lt : w.heap.size < O ∧ O < R
  w_ : wr.heap[w.heap.size]? = some (.cells (words ws) 27 (0, 0))
  out : wr.heap[O]? = some (.cells (words (List.replicate 8 0)) 27 (0, 0))
  ring : wr.heap[R]? = some (.cells (words r) 83 (0, 0))
  below : Below w.heap.size w wr
theorem MixI.drewN {w : World} {O R : Nat} {ws r : List (BitVec 32)} {wr : World} (h : MixI w O R ws r wr) (n : Nat) : MixI w O R ws r (wr.drewN n) := ⟨h.lt, h.w_, h.out, h.ring, Below.drewN h.below n⟩
theorem MixI.setR {w : World} {O R : Nat} {ws r : List (BitVec 32)} {wr : World} (h : MixI w O R ws r wr) (p : Nat) (x : BitVec 32) : MixI w O R ws (r.set p x) (wr.setCell ⟨R, p, none⟩ (.int .u32 (wv x))) := by
  have hl := h.lt
  refine ⟨h.lt, (heap_setCell_other _ _ _ _ (by simp; omega)).trans h.w_, (heap_setCell_other _ _ _ _ (by simp; omega)).trans h.out, ?_, h.below.setCell (p := ⟨R, p, none⟩) (by simp; omega) _⟩
  have h2 := heap_setCell_same wr R p _ _ (.int .u32 (wv x)) h.ring
  rwa [words_set] at h2
theorem MixI.setW {w : World} {O R : Nat} {ws r : List (BitVec 32)} {wr : World} (h : MixI w O R ws r wr) (p : Nat) (x : BitVec 32) : MixI w O R (ws.set p x) r (wr.setCell ⟨w.heap.size, p, none⟩ (.int .u32 (wv x))) := by
  have hl := h.lt
  refine ⟨h.lt, ?_, (heap_setCell_other _ _ _ _ (by simp; omega)).trans h.out, (heap_setCell_other _ _ _ _ (by simp; omega)).trans h.ring, h.below.setCell (p := ⟨w.heap.size, p, none⟩) (Nat.le_refl _) _⟩
  have h2 := heap_setCell_same wr w.heap.size p _ _ (.int .u32 (wv x)) h.w_
  rwa [words_set] at h2
theorem MixI.kept {w : World} {O R : Nat} {ws r r' : List (BitVec 32)} {wr w' : World} (h : MixI w O R ws r wr) (hk : Kept [R] wr w') (hr : w'.heap[R]? = some (.cells (words r') 83 (0, 0))) : MixI w O R ws r' w' := by
  have h1 := (Array.getElem?_eq_some_iff.1 h.ring).1
  have hl := h.lt
  exact ⟨h.lt, (hk.block _ (by omega) (by simp; omega)).trans h.w_, (hk.block _ (by omega) (by simp; omega)).trans h.out, hr, h.below.trans (hk.toBelow (by simp; omega) h.below.size)⟩

set_option maxRecDepth 100000 in
set_option maxHeartbeats 4000000 in
theorem mix_any (ws : List (BitVec 32)) (b : List (BitVec 8)) (hw : ws.length = 8) (hb : b.length = 64) (w : World) (hG : Glob w) :
    Calls Tryd.prog 26 #[.agg (words ws), .agg (bytes b)] w fun e w' => e = .returned (.agg (words (Sha.mix ws b))) ∧ Below w.heap.size w w' := by
  have HIW := Lib.hid (fun (xs : List (BitVec 32)) (h : xs.length = 8) => (show (Tryd.prog.info? 27).map (·.size) = some (words xs).size by rw [words_size, h]; kernel_rfl))
  have HIB := Lib.hid (show (Tryd.prog.info? 29).map (·.size) = some (bytes b).size by rw [bytes_size, hb]; kernel_rfl)
  have hix := fun (i : Nat) (hi : i < 64) => run_index_row (P := Tryd.prog) (T := 29) (E := 5) Tryd.underlying29 Tryd.underlying5 rfl (by kernel_rfl) (bytes b) (by rw [bytes_size]; exact hb) (i : Int) (by omega) (by omega)
  have HIX := Lib.hid hix
  have HG := Lib.hid hG
  have HW := Lib.hid hw
  have HB := Lib.hid hb
  obtain ⟨wb, hwb⟩ : ∃ wb, words ws = wb := ⟨_, rfl⟩
  obtain ⟨bb, hbb⟩ : ∃ bb, bytes b = bb := ⟨_, rfl⟩
  rw [hbb] at HIX HIB
  rw [hwb, hbb]
  have HWB := Lib.hid (And.intro hwb hbb)
  clear hix hG hw hb hwb hbb
  go_enter Tryd.func26, Tryd.ntmps26
  go_upto_region 2 with fail
  obtain ⟨Y, hY, hBY, hYs, hY0, hY1, hY2⟩ := alloc3 w (.cells wb 27) (.cells bb 29) (.cells (words (List.replicate 8 0)) 27)
  rw [show ((w.alloc (.cells wb 27)).alloc (.cells bb 29)).alloc (.cells #[.int .u32 0, .int .u32 0, .int .u32 0, .int .u32 0, .int .u32 0, .int .u32 0, .int .u32 0, .int .u32 0] 27) = Y from hY]
  obtain ⟨X, hX, hBX, hXs, hX0⟩ := alloc1 Y (.cells (words (List.replicate 16 0)) 83)
  rw [show Y.alloc (.cells #[.int .u32 0, .int .u32 0, .int .u32 0, .int .u32 0, .int .u32 0, .int .u32 0, .int .u32 0, .int .u32 0, .int .u32 0, .int .u32 0, .int .u32 0, .int .u32 0, .int .u32 0, .int .u32 0, .int .u32 0, .int .u32 0] 83) = X from hX]
  have hbk : X.heap[w.heap.size + 1]? = some (.cells bb 29 (0, 0)) := (hBX.block _ (by omega)).trans hY1
  have hI : MixI w (w.heap.size + 1 + 1) (w.heap.size + 1 + 1 + 1) ws (Sha.pring b 0) X := by
    refine ⟨⟨by omega, by omega⟩, ?_, (hBX.block _ (by omega)).trans hY2, ?_, hBY.trans (hBX.mono (by omega))⟩
    · rw [HWB.out.1]; exact (hBX.block _ (by omega)).trans hY0
    · rw [Sha.pring_zero]; rw [show w.heap.size + 1 + 1 + 1 = Y.heap.size by omega]; exact hX0
  have HI := Lib.hid hI
  have HBK := Lib.hid hbk
  clear hI hbk hY hBY hYs hY0 hY1 hY2 hX hBX hXs hX0
  generalize w.heap.size + 1 + 1 + 1 = R at *
  generalize w.heap.size + 1 + 1 = O at *
  go_upto_region 3 with (refine wpList_load_row rfl 29 (.tmp 3) rfl (w.heap.size + 1) rfl _ _ _ _ HBK.out Tryd.underlying29 rfl HIB.out ?_)
  clear HBK HIB
  go_loopw [23] (fun s wr => ∃ i : Nat, i ≤ 64 ∧ s = .int .i64 i ∧ Hid (MixI w O R ws (Sha.pring b i) wr)) (fun s _ => 64 - (intOf s).toNat)
  case atStart => exact ⟨0, by omega, rfl, HI⟩
  case round =>
    clear HI
    obtain ⟨i, hi, rfl, HI⟩ := hrel
    by_cases hlt : i < 64
    · have hx := fun (W : World) => HIX.out i hlt W
      rw [← HWB.out.2, Int.toNat_natCast, Array.getD_eq_getD_getElem?, bytes_get? b i (by rw [HB.out]; exact hlt), Option.getD_some, HWB.out.2] at hx
      have hn := HI.out.setR (i / 4) ((Sha.pring b i).getD (i / 4) 0 <<< 8 ||| (b.getD i 0).setWidth 32)
      rw [← Sha.pring_succ b i hlt] at hn
      have cr := (cell_of_row wr R (i / 4) _ _ _ HI.out.ring).trans (words_get? _ (i / 4) (by rw [Sha.pring_length]; omega))
      have fr := frozen_of_row wr R (i / 4) _ _ HI.out.ring
      generalize (Sha.pring b i).getD (i / 4) 0 = x at cr hn
      generalize b.getD i 0 = y at hx hn
      have HN := Lib.hid hn
      obtain ⟨q, hq, hq16⟩ : ∃ q : Nat, i / 4 = q ∧ q < 16 := ⟨_, rfl, by omega⟩
      have hqi : (i : Int) / 4 = q := by omega
      rw [hq] at cr fr HN
      have hy : bv y = wv (y.setWidth 32) := by rw [← u8_to_u32, wrap_u32_mod]; have := bv_nonneg y; have := bv_lt y; omega
      have hs8 : wv x * (256 : Int) % (4294967296 : Int) = wv (x <<< 8) := by rw [← wrap_u32_mod]; exact u32_shl8 x
      have hyw : wv (y.setWidth 32) % (4294967296 : Int) = wv (y.setWidth 32) := Int.emod_eq_of_lt (wv_nonneg _) (wv_lt _)
      clear hn hq
      go_wp2
      exact ⟨⟨i + 1, by omega, by go_num, HN⟩, by simp [intOf]; omega⟩
    · obtain rfl : i = 64 := by omega
      rw [Sha.pring_all] at HI
      have hc : ∀ p, p < 8 → wr.cell? ⟨w.heap.size, p, none⟩ = some (.int .u32 (wv (ws.getD p 0))) := fun p hp => (cell_of_row wr w.heap.size p _ _ _ HI.out.w_).trans (words_get? ws p (by rw [HW.out]; exact hp))
      have c0 := hc 0 (by omega)
      have c1 := hc 1 (by omega)
      have c2 := hc 2 (by omega)
      have c3 := hc 3 (by omega)
      have c4 := hc 4 (by omega)
      have c5 := hc 5 (by omega)
      have c6 := hc 6 (by omega)
      have c7 := hc 7 (by omega)
      have HS0 := Lib.hid (show Sha.S.of ws = ⟨ws.getD 0 0, ws.getD 1 0, ws.getD 2 0, ws.getD 3 0, ws.getD 4 0, ws.getD 5 0, ws.getD 6 0, ws.getD 7 0⟩ from rfl)
      obtain ⟨sa, sb, sc, sd, se, sf, sg, sh, hsv⟩ : ∃ sa sb sc sd se sf sg sh, Sha.S.of ws = ⟨sa, sb, sc, sd, se, sf, sg, sh⟩ := ⟨_, _, _, _, _, _, _, _, rfl⟩
      have hsv' := HS0.out.symm.trans hsv
      simp only [Sha.S.mk.injEq] at hsv'
      obtain ⟨g0, g1, g2, g3, g4, g5, g6, g7⟩ := hsv'
      rw [g0] at c0
      rw [g1] at c1
      rw [g2] at c2
      rw [g3] at c3
      rw [g4] at c4
      rw [g5] at c5
      rw [g6] at c6
      rw [g7] at c7
      have HSV := Lib.hid hsv
      clear hc hsv HS0 g0 g1 g2 g3 g4 g5 g6 g7
      go_upto_region 7 with fail
      go_cut [8, 9, 10, 11, 12, 13, 14, 15] (fun s8 s9 s10 s11 s12 s13 s14 s15 wx => s8 = .int .u32 (wv sa) ∧ s9 = .int .u32 (wv sb) ∧ s10 = .int .u32 (wv sc) ∧ s11 = .int .u32 (wv sd) ∧ s12 = .int .u32 (wv se) ∧ s13 = .int .u32 (wv sf) ∧ s14 = .int .u32 (wv sg) ∧ s15 = .int .u32 (wv sh) ∧ ∃ m, wx = wr.drewN m)
      case first =>
        go_quiet (fail)
        go_wp2_with fail
        go_meet
        case rel => exact ⟨rfl, rfl, rfl, rfl, rfl, rfl, rfl, rfl, _, rfl⟩
      case rest =>
        obtain ⟨rfl, rfl, rfl, rfl, rfl, rfl, rfl, rfl, m, rfl⟩ := hcut
        have HI2 := Lib.hid (HI.out.drewN m)
        clear HI c0 c1 c2 c3 c4 c5 c6 c7
        obtain ⟨tA, frA, hA0⟩ := HG.out.adds
        have hz2 := HG.out.size
        have HA := Lib.hid ((HI2.out.below.block 1 (by omega)).trans hA0)
        have HIA := Lib.hid (show (Tryd.prog.info? 84).map (·.size) = some (words Sha.adds).size by kernel_rfl)
        have hixa := fun (i : Nat) (hi : i < 64) => run_index_row (P := Tryd.prog) (T := 84) (E := 25) Tryd.underlying84 Tryd.underlying25 rfl (by kernel_rfl) (words Sha.adds) rfl (i : Int) (by omega) (by omega)
        have HIXA := Lib.hid hixa
        have HAL := Lib.hid (show (words Sha.adds).size = 64 from rfl)
        obtain ⟨aa, haa⟩ : ∃ aa, words Sha.adds = aa := ⟨_, rfl⟩
        rw [haa] at HA HIA HIXA
        have HAA := Lib.hid haa
        have HS1 := Lib.hid (show Sha.rnds (Sha.S.of ws) (Sha.sched b 64) 0 = ⟨sa, sb, sc, sd, se, sf, sg, sh⟩ from HSV.out)
        clear hixa hA0 haa
        go_upto_region 9 with (refine wpList_load_row rfl 84 (.global 1) rfl 1 rfl _ _ _ _ HA.out Tryd.underlying84 rfl HIA.out ?_)
        clear HA HIA
        go_loopw [8, 9, 10, 11, 12, 13, 14, 15, 56] (fun s8 s9 s10 s11 s12 s13 s14 s15 s56 wq => ∃ (i : Nat) (S : Sha.S), i ≤ 64 ∧ s56 = .int .i64 i ∧ s8 = .int .u32 (wv S.a) ∧ s9 = .int .u32 (wv S.b) ∧ s10 = .int .u32 (wv S.c) ∧ s11 = .int .u32 (wv S.d) ∧ s12 = .int .u32 (wv S.e) ∧ s13 = .int .u32 (wv S.f) ∧ s14 = .int .u32 (wv S.g) ∧ s15 = .int .u32 (wv S.h) ∧ Hid (Sha.rnds (Sha.S.of ws) (Sha.sched b 64) i = S) ∧ Hid (MixI w O R ws (Sha.ring b i) wq)) (fun _ _ _ _ _ _ _ _ s56 _ => 64 - (intOf s56).toNat)
        case atStart => exact ⟨0, ⟨sa, sb, sc, sd, se, sf, sg, sh⟩, by omega, rfl, rfl, rfl, rfl, rfl, rfl, rfl, rfl, rfl, HS1, HI2⟩
        case round =>
          clear HI2 HS1 HSV
          obtain ⟨i, ⟨a, b', c, d, e, f, g, h⟩, hi, rfl, rfl, rfl, rfl, rfl, rfl, rfl, rfl, rfl, HS, HI⟩ := hrel
          dsimp only
          by_cases hlt : i < 64
          · have hx := fun (W : World) => HIXA.out i hlt W
            rw [← HAA.out, Int.toNat_natCast, Array.getD_eq_getD_getElem?, words_get? Sha.adds i hlt, Option.getD_some, HAA.out] at hx
            have hnx := next_any (Sha.ring b i) (Sha.ring_length b i) R i hlt _ wr HI.out.ring
            have hw := Sha.ring_word b i hlt
            have hsc := Sha.rnds_succ (Sha.S.of ws) (Sha.sched b 64) i
            rw [show Sha.ringNext (Sha.ring b i) i = Sha.ring b (i + 1) from rfl, hw] at hnx
            rw [HS.out] at hsc
            generalize Sha.adds.getD i 0 = k at hx hsc
            generalize (Sha.sched b 64).getD i 0 = wd at hnx hsc
            have HSC := Lib.hid hsc
            have HNX := Lib.hid hnx
            have HLE := Lib.hid (fun w => (show Calls Tryd.prog 60 #[.int .u32 (wv e), .int .i64 6, .int .i64 11, .int .i64 25] w fun e' w' => e' = .returned (.int .u32 (wv (Sha.large e 6 11 25))) ∧ w = w' from large_any e 6 11 25 (by omega) (by omega) (by omega) (by omega) (by omega) (by omega) w))
            have HLA := Lib.hid (fun w => (show Calls Tryd.prog 60 #[.int .u32 (wv a), .int .i64 2, .int .i64 13, .int .i64 22] w fun e' w' => e' = .returned (.int .u32 (wv (Sha.large a 2 13 22))) ∧ w = w' from large_any a 2 13 22 (by omega) (by omega) (by omega) (by omega) (by omega) (by omega) w))
            clear hw hsc hnx
            go_wp2_with (first
              | (go_at_call 60; with_reducible refine Calls.mono (HLE.out _) ?_; rintro e' w' ⟨rfl, rfl⟩)
              | (go_at_call 60; with_reducible refine Calls.mono (HLA.out _) ?_; rintro e' w' ⟨rfl, rfl⟩)
              | (go_at_call 61; refine HNX.out.mono ?_; rintro e' w2 ⟨rfl, hr, hk⟩; have HI2 := Lib.hid (HI.out.kept hk hr); clear hr hk))
            exact ⟨⟨i + 1, _, by omega, by go_num, rfl, rfl, rfl, rfl, rfl, rfl, rfl, rfl, HSC, HI2⟩, by simp [intOf]; omega⟩
          · obtain rfl : i = 64 := by omega
            have HMX := Lib.hid (show Sha.mix ws b = Sha.plus ws [a, b', c, d, e, f, g, h] by unfold Sha.mix; rw [HS.out]; rfl)
            obtain ⟨xs, hxs, hxl⟩ : ∃ xs : List (BitVec 32), [a, b', c, d, e, f, g, h] = xs ∧ xs.length = 8 := ⟨_, rfl, rfl⟩
            have hag : #[.int .u32 (wv a), .int .u32 (wv b'), .int .u32 (wv c), .int .u32 (wv d), .int .u32 (wv e), .int .u32 (wv f), .int .u32 (wv g), .int .u32 (wv h)] = words xs := by rw [← hxs]; rfl
            rw [hxs] at HMX
            have hixw := fun (i : Nat) (hi : i < 8) => run_index_row (P := Tryd.prog) (T := 26) (E := 25) Tryd.underlying26 Tryd.underlying25 rfl (by kernel_rfl) (words xs) (by rw [words_size]; exact hxl) (i : Int) (by omega) (by omega)
            have HIXW := Lib.hid hixw
            have HAG := Lib.hid hag
            have HXL := Lib.hid hxl
            have HI0 := Lib.hid (show MixI w O R (Sha.plusN ws xs 0) (Sha.ring b 64) wr by rw [Sha.plusN_zero]; exact HI.out)
            clear hxs hag hixw hxl HI HS HIXA HAL HAA HIX
            go_upto_region 16 with fail
            rw [HAG.out]
            obtain ⟨xa, hxa⟩ : ∃ xa, words xs = xa := ⟨_, rfl⟩
            rw [hxa] at HIXW ⊢
            have HXA := Lib.hid hxa
            clear hxa HAG
            go_loopw [111] (fun s wq => ∃ i : Nat, i ≤ 8 ∧ s = .int .i64 i ∧ Hid (MixI w O R (Sha.plusN ws xs i) (Sha.ring b 64) wq)) (fun s _ => 8 - (intOf s).toNat)
            case atStart => exact ⟨0, by omega, rfl, HI0⟩
            case round =>
              clear HI0
              obtain ⟨i, hi, rfl, HI⟩ := hrel
              by_cases hlt : i < 8
              · have hx := fun (W : World) => HIXW.out i hlt W
                rw [← HXA.out, Int.toNat_natCast, Array.getD_eq_getD_getElem?, words_get? xs i (by rw [HXL.out]; exact hlt), Option.getD_some, HXA.out] at hx
                have cw := (cell_of_row wr w.heap.size i _ _ _ HI.out.w_).trans (words_get? _ i (by rw [Sha.plusN_length, HW.out]; exact hlt))
                rw [Sha.plusN_getD _ _ _ _ (by rw [HW.out]; exact hlt), if_neg (by omega)] at cw
                have fw := frozen_of_row wr w.heap.size i _ _ HI.out.w_
                have hn := HI.out.setW i (ws.getD i 0 + xs.getD i 0)
                rw [← Sha.plusN_succ _ _ _ (by rw [HW.out]; exact hlt)] at hn
                have HN := Lib.hid hn
                clear hn
                generalize ws.getD i 0 = x at cw HN
                generalize xs.getD i 0 = y at hx HN
                go_wp2
                exact ⟨⟨i + 1, by omega, by go_num, HN⟩, by simp [intOf]; omega⟩
              · obtain rfl : i = 8 := by omega
                have hp := Sha.plusN_all ws xs (by rw [HW.out, HXL.out])
                rw [HW.out, ← HMX.out] at hp
                rw [hp] at HI
                have hml := Sha.mix_length ws b HW.out
                have HIM := Lib.hid (HIW.out _ hml)
                have HML := Lib.hid hml
                have HOX := Lib.hid (show (wr.setRow O (words (Sha.mix ws b))).heap[O]? = some (.cells (words (Sha.mix ws b)) 27 (0, 0)) from setRow_heap _ _ _ _ _ _ HI.out.out)
                have hlO := HI.out.lt
                have HBX := Lib.hid (HI.out.below.trans (((Kept.refl [O] wr).setRow (show O ∈ [O] by simp) (words (Sha.mix ws b))).toBelow (B := w.heap.size) (by simp; omega) HI.out.below.size))
                clear hp hml
                generalize hmx : Sha.mix ws b = mx at *
                have HQ := Lib.hid hmx
                clear hmx
                go_wp2_with (first
                  | (refine wpList_load_row rfl 27 (.tmp 2) rfl w.heap.size rfl _ _ _ _ HI.out.w_ Tryd.underlying27 rfl HIM.out ?_)
                  | (refine wpList_store_row rfl 27 (.tmp 4) (.tmp 122) rfl O _ rfl rfl _ _ HI.out.out HIM.out (by rw [words_size, words_size, HML.out]; rfl) (words_one _) ?_))
                exact bodyPost_ret (results_cell_row Tryd.results26 _ _ O _ _ _ _ rfl HOX.out Tryd.underlying27 rfl HIM.out) rfl ⟨by rw [HQ.out], HBX.out⟩
end Go.Proofs.YtnoilogepkelaaaDoor
