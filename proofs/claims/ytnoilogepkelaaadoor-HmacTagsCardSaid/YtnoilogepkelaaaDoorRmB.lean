/-
  The document's hmac: Sum.
-/
import Derived.Test.YtnoilogepkelaaaDoorRmA
namespace Go.Proofs.YtnoilogepkelaaaDoor
set_option linter.unusedVariables false
set_option linter.unusedSimpArgs false
open Go Go.RowKit

set_option maxRecDepth 100000 in
set_option maxHeartbeats 4000000 in
theorem rhmac_any (key text : List (BitVec 8)) (v0 v1 : Value) (w : World) (h0 : SlB w v0 key) (h1 : SlB w v1 text) (hl0 : key.length ≤ 40000000) (hl1 : text.length ≤ 40000000) :
    Calls Tryd.prog 47 #[v0, v1] w fun e w' => e = .returned (.agg (bytes (Hma.tag key text))) ∧ Below w.heap.size w w' := by
  have HS0 := Lib.hid h0
  have HS1 := Lib.hid h1
  have HBK := Lib.hid (fun W (hB : Below w.heap.size w W) => rblock_any key v0 W (h0.below hB (Nat.le_refl _)) (by omega))
  have hkl := Hma.kblock_length key
  have HC1 := Lib.hid (fun v W (h : SlB W v (Hma.kblock key)) => rchanged_any (Hma.kblock key) hkl 0x36 v W h)
  have HC2 := Lib.hid (fun v W (h : SlB W v (Hma.kblock key)) => rchanged_any (Hma.kblock key) hkl 0x5c v W h)
  rw [show bv (0x36 : BitVec 8) = 54 from rfl] at HC1
  rw [show bv (0x5c : BitVec 8) = 92 from rfl] at HC2
  have hby : ∀ x, (Hma.by_ x (Hma.kblock key)).length = 64 := fun x => by simp [Hma.by_, hkl]
  have htg : Hma.tag key text = Sha.sum (Hma.by_ 0x5c (Hma.kblock key) ++ Sha.sum (Hma.by_ 0x36 (Hma.kblock key) ++ text)) := rfl
  have HM1 := Lib.hid (fun v W (h : SlB W v (Hma.by_ 0x36 (Hma.kblock key) ++ text)) => rsum_any _ v W h (by rw [List.length_append, hby]; omega))
  have HM2 := Lib.hid (fun v W (h : SlB W v (Hma.by_ 0x5c (Hma.kblock key) ++ Sha.sum (Hma.by_ 0x36 (Hma.kblock key) ++ text))) => rsum_any _ v W h (by rw [List.length_append, hby, Sha.sum_length]; omega))
  rw [← htg] at HM2
  have HBY1 := Lib.hid (hby 0x36)
  have HBY2 := Lib.hid (hby 0x5c)
  have HTL := Lib.hid (Hma.tag_length key text)
  obtain ⟨D, hD⟩ : ∃ D, Sha.sum (Hma.by_ 0x36 (Hma.kblock key) ++ text) = D := ⟨_, rfl⟩
  have HDL := Lib.hid (show D.length = 32 by rw [← hD]; exact Sha.sum_length _)
  rw [hD] at HM1 HM2
  obtain ⟨T, hT⟩ : ∃ T, Hma.tag key text = T := ⟨_, rfl⟩
  rw [hT] at HM2 HTL ⊢
  have HIH := Lib.hid (fun (xs : List (BitVec 8)) (h : xs.length = 32) => (show (Tryd.prog.info? 32).map (·.size) = some (bytes xs).size by rw [bytes_size, h]; kernel_rfl))
  have HTK := Lib.hid (fun i (h : i < 32) => Rhm.take_next D i (by rw [HDL.out]; omega))
  have HT32 := Lib.hid (show D.take 32 = D from List.take_of_length_le (by rw [HDL.out]; omega))
  have HCE := Lib.hid (fun i (h : i < 32) => bytes_get? D i (by rw [HDL.out]; omega))
  have HLN := Lib.hid (fun i => (show (D.take i).length = min i D.length from List.length_take))
  have HL1 := Lib.hid hl1
  clear h0 h1 hkl hby htg hD hT
  go_enter Tryd.func47, Tryd.ntmps47
  go_upto_region 1 with fail
  obtain ⟨X, hX, hBX, hXs, hX0⟩ := alloc1 w (.cells (bytes (List.replicate 32 0)) 32)
  rw [show w.alloc (.cells #[.int .u8 0, .int .u8 0, .int .u8 0, .int .u8 0, .int .u8 0, .int .u8 0, .int .u8 0, .int .u8 0, .int .u8 0, .int .u8 0, .int .u8 0, .int .u8 0, .int .u8 0, .int .u8 0, .int .u8 0, .int .u8 0, .int .u8 0, .int .u8 0, .int .u8 0, .int .u8 0, .int .u8 0, .int .u8 0, .int .u8 0, .int .u8 0, .int .u8 0, .int .u8 0, .int .u8 0, .int .u8 0, .int .u8 0, .int .u8 0, .int .u8 0, .int .u8 0] 32) = X from hX]
  have HB0 := Lib.hid hBX
  have HO0 := Lib.hid hX0
  have HXS := Lib.hid hXs
  clear hX hBX hX0 hXs
  go_upto_region 2 with (first
    | (go_at_call 76; (with_reducible refine Calls.mono (HBK.out _ HB0.out) ?_); rintro e w1 ⟨v2, rfl, ho, hb⟩; have HO1 := Lib.hid ho.sl; have HB1 := Lib.hid hb; clear ho hb)
    | (go_at_call 75; (with_reducible refine Calls.mono (HC1.out _ _ HO1.out) ?_); rintro e w2 ⟨v3, rfl, ho, hb⟩; have HO2 := Lib.hid (ho.mono HB1.out.size); have HB2 := Lib.hid (HB1.out.trans (hb.mono HB1.out.size)); clear ho hb)
    | (at_builtin; refine wpList_append_b rfl (.tmp 10) (.tmp 11) 22 5 rfl Tryd.underlying22 info_u8 X.heap.size _ _ HO2.out rfl _ _ (HS1.out.below (HB0.out.trans (HB2.out.mono HB0.out.size)) (Nat.le_refl _)) rfl (by rw [HBY1.out]; have := HL1.out; omega) HB2.out.size ?_; intro v4 w3 ho hg hn'; have HO3 := Lib.hid ho.sl; have HB3 := Lib.hid (HB2.out.grown hg HB2.out.size (fun k e => (World.ownsRow.lt HO2.out k e).1)); clear ho hg hn')
    | (go_at_call 33; refine (HM1.out _ _ HO3.out).mono ?_; rintro e w4 ⟨rfl, hb⟩; have HB4 := Lib.hid (HB3.out.trans (hb.mono HB3.out.size)); clear hb)
    | (refine wpList_store_row rfl 32 (.tmp 5) (.tmp 13) rfl _ _ rfl rfl _ _ (heap_alloc_new _ _) (HIH.out _ HDL.out) (by rw [bytes_size, HDL.out]; rfl) (bytes_one _) ?_; rw [World.setRow_alloc_new]))
  obtain ⟨Y, hY, hBY, hYs, hY0⟩ := alloc1 w4 (.cells (bytes D) 32)
  rw [hY]
  have hz4 := HB4.out.size
  have HBY := Lib.hid (HB4.out.trans (hBY.mono hz4))
  have HYS := Lib.hid (show w4.heap.size < Y.heap.size by omega)
  have HY0 := Lib.hid hY0
  obtain ⟨G, hG⟩ : ∃ G, w4.heap.size = G := ⟨_, rfl⟩
  rw [hG] at HY0 HYS ⊢
  clear hY hBY hYs hY0 hz4 hG HB1 HB2 HB3 HB4 HO1 HO2 HO3
  go_wp2
  go_loopw [6, 7] (fun s6 s7 wr => ∃ i : Nat, i ≤ 32 ∧ s7 = .int .i64 i ∧ Hid (OwnB 5 Y.heap.size wr s6 (D.take i)) ∧ Hid (Below Y.heap.size Y wr)) (fun _ s7 _ => 32 - (intOf s7).toNat)
  case atStart => exact ⟨0, by omega, rfl, OwnB.nil _ _ _, Below.refl _ _⟩
  case round =>
    obtain ⟨i, hi, rfl, HO, HB⟩ := hrel
    have hsz := HB.out.size
    by_cases hlt : i < 32
    · have c0 := (cell_of_row wr G i _ _ _ ((HB.out.block _ HYS.out).trans HY0.out)).trans (HCE.out i hlt)
      have htk := HTK.out i hlt
      generalize D.getD i 0 = y at c0 htk
      have HT := Lib.hid htk
      have HL := Lib.hid (show (D.take i).length ≤ 64 by rw [HLN.out]; omega)
      clear htk
      go_wp2_with (at_builtin; refine wpList_append_b rfl (.tmp 18) (.tmp 22) 22 5 rfl Tryd.underlying22 info_u8 Y.heap.size _ _ (HO.out.alloc _) rfl _ [y] (one_byte _ _ _ rfl) rfl (by have := HL.out; simp only [List.length_singleton]; omega) (by simp; omega) ?_; intro v3 w3 ho hg hn'; rw [← HT.out] at ho; have HO3 := Lib.hid ho; have HB3 := Lib.hid ((HB.out.alloc hsz _).grown hg (by simp; omega) (fun k e => (World.ownsRow.lt HO.out k e).1)); clear ho hg hn')
      exact ⟨⟨i + 1, by omega, by go_num, HO3, HB3⟩, by simp [intOf]; omega⟩
    · obtain rfl : i = 32 := by omega
      rw [HT32.out] at HO
      have HBX := Lib.hid (HBY.out.trans (HB.out.mono HBY.out.size))
      have HBW := Lib.hid (HB0.out.trans (HBX.out.mono HB0.out.size))
      have hxs := HXS.out
      have HOR := Lib.hid (show ∀ W, Below X.heap.size X W → W.heap[w.heap.size]? = some (.cells (bytes (List.replicate 32 0)) 32 (0, 0)) from fun W h => (h.block _ (by omega)).trans HO0.out)
      clear hxs
      go_wp2_with (first
        | (go_at_call 76; (with_reducible refine Calls.mono (HBK.out _ HBW.out) ?_); rintro e w1 ⟨v2, rfl, ho, hb⟩; have HO1 := Lib.hid ho.sl; have HB1 := Lib.hid hb; have HP1 := Lib.hid (HO.out.below hb (Nat.le_refl _)); clear ho hb)
        | (go_at_call 75; (with_reducible refine Calls.mono (HC2.out _ _ HO1.out) ?_); rintro e w2 ⟨v3, rfl, ho, hb⟩; have HO2 := Lib.hid (ho.mono HB1.out.size); have HB2 := Lib.hid (HB1.out.trans (hb.mono HB1.out.size)); have HP2 := Lib.hid (HP1.out.below hb (Nat.le_refl _)); clear ho hb)
        | (at_builtin; refine wpList_append_b rfl (.tmp 26) (.tmp 27) 22 5 rfl Tryd.underlying22 info_u8 wr.heap.size _ _ HO2.out rfl _ _ HP2.out.sl rfl (by rw [HBY2.out, HDL.out]; omega) HB2.out.size ?_; intro v4 w3 ho hg hn'; have HO3 := Lib.hid ho.sl; have HB3 := Lib.hid (HB2.out.grown hg HB2.out.size (fun k e => (World.ownsRow.lt HO2.out k e).1)); clear ho hg hn')
        | (go_at_call 33; refine (HM2.out _ _ HO3.out).mono ?_; rintro e w4 ⟨rfl, hb⟩; have HB4 := Lib.hid (HBX.out.trans ((HB3.out.trans (hb.mono HB3.out.size)).mono HBX.out.size)); have HO6 := Lib.hid (HOR.out _ HB4.out); clear hb)
        | (refine wpList_store_row rfl 32 (.tmp 4) (.tmp 29) rfl w.heap.size _ rfl rfl _ _ HO6.out (HIH.out _ HTL.out) (by rw [bytes_size, bytes_size, HTL.out]; rfl) (bytes_one _) ?_))
      have hb2 := HB0.out.trans (HB4.out.mono HB0.out.size)
      exact bodyPost_ret (results_cell_row Tryd.results47 _ _ w.heap.size _ _ _ _ rfl (setRow_heap _ _ _ _ _ _ HO6.out) Tryd.underlying32 rfl (HIH.out _ HTL.out)) rfl ⟨rfl, hb2.trans (((Kept.refl [w.heap.size] w4).setRow (by simp) _).toBelow (B := w.heap.size) (by simp) hb2.size)⟩
end Go.Proofs.YtnoilogepkelaaaDoor
