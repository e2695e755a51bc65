/-
  The law ShaWords: its walk.
-/
import Derived.Test.YtnoilogepkelaaaDoorRsL
import Derived.Test.YtnoilogepkelaaaDoorShaL5
import Derived.Test.YtnoilogepkelaaaDoorAny
namespace Go.Proofs.YtnoilogepkelaaaDoor
set_option linter.unusedVariables false
set_option linter.unusedSimpArgs false
open Go Go.RowKit

set_option maxRecDepth 100000 in
set_option maxHeartbeats 4000000 in
theorem law_shaWords {w : World} (h : List (BitVec 8)) (hh : h.length = 32) (xs : List (BitVec 8)) (hG : Glob w) :
    Calls Tryd.prog 7 #[.agg (bytes h), .string (strB xs)] w fun e w' => e = .returned (.bool true) ∧ Below w.heap.size w w' := by
  have hgz := hG.size
  have HAW := Lib.hid (fun W (hB : Below w.heap.size w W) => awake_any W (hG.below hB hgz))
  have hss := strB_size xs
  obtain ⟨bb, hbb⟩ : ∃ bb, bytes h = bb := ⟨_, rfl⟩
  by_cases hl : xs.length ≤ 3000
  · have HTX := Lib.hid (fun W => text_any h hh W)
    have HRT := Lib.hid (fun W => rtext_any h hh W)
    have HOF := Lib.hid (fun W => of_any xs (by omega) W)
    have HRO := Lib.hid (fun W => rof_any xs (by omega) W)
    have hL : ((Sha.of xs).getD (List.replicate 32 0)).length = 32 := by
      cases e : Sha.of xs with
      | none => simp
      | some v => exact (Sha.text_of xs v e).1
    obtain ⟨q, hq⟩ : ∃ q, (Sha.of xs).isSome = q := ⟨_, rfl⟩
    obtain ⟨L, hLv⟩ : ∃ L, (Sha.of xs).getD (List.replicate 32 0) = L := ⟨_, rfl⟩
    rw [hq] at HOF HRO
    rw [hLv] at HOF HRO hL
    obtain ⟨ST, hST⟩ : ∃ s, strB (Sha.text h) = s := ⟨_, rfl⟩
    rw [hST] at HTX HRT
    obtain ⟨S, hS⟩ : ∃ s, strB xs = s := ⟨_, rfl⟩
    rw [hS] at HOF HRO hss ⊢
    have HIB := Lib.hid (show (Tryd.prog.info? 32).map (·.size) = some bb.toList.length by rw [Array.length_toList, ← hbb, bytes_size, hh]; kernel_rfl)
    have HIL := Lib.hid (show (Tryd.prog.info? 32).map (·.size) = some (bytes L).size by rw [bytes_size, hL]; kernel_rfl)
    have HIL2 := Lib.hid (show (Tryd.prog.info? 32).map (·.size) = some (bytes L).toList.length by rw [Array.length_toList, bytes_size, hL]; kernel_rfl)
    have HEQ := Lib.hid (fun W => run_eql_hash (n := 32) Tryd.underlying32 (by kernel_rfl) L hL W)
    have HOA := Lib.hid (bytes_one L)
    have HLZ := Lib.hid (show (bytes L).size = 32 by rw [bytes_size, hL])
    obtain ⟨lb, hlb⟩ : ∃ lb, bytes L = lb := ⟨_, rfl⟩
    rw [hlb] at HOF HRO HIL HIL2 HEQ HOA HLZ
    rw [hbb] at HTX HRT ⊢
    obtain ⟨n0, hn0⟩ : ∃ n, xs.length = n := ⟨_, rfl⟩
    rw [hn0] at hl hss
    have hq1 := fun x y W => (HEQ.out W).1 x y
    have hq2 := fun W => (HEQ.out W).2
    have hnl0 : ¬ (3000 : Int) < (n0 : Int) := by omega
    clear hL hlb hn0 hbb hG HEQ hh hq hLv hST hS
    go_enter Tryd.func7, Tryd.ntmps7
    go_upto_region 3 with fail
    obtain ⟨X, hX, hBX, hXs, hX0⟩ := alloc1 w (.cells bb 32)
    rw [hX]
    have HBX := Lib.hid hBX
    have HX0 := Lib.hid hX0
    have HXS := Lib.hid hXs
    clear hX hBX hX0 hXs
    go_upto_region 4 with (first
      | (go_at_call 34; refine (HOF.out _).mono ?_; rintro e w1 ⟨rfl, hb⟩; have HB1 := Lib.hid hb; clear hb)
      | (refine wpList_store_row rfl 32 (.tmp 5) (.tmp 16) rfl _ _ rfl rfl _ _ (heap_alloc_new _ _) HIL.out (by rw [HLZ.out]; rfl) HOA.out ?_; rw [World.setRow_alloc_new]))
    obtain ⟨Y, hY, hBY, hYs, hY0⟩ := alloc1 w1 (.cells lb 32)
    rw [hY]
    have HXY := Lib.hid (HB1.out.trans (hBY.mono HB1.out.size))
    have hxs := HXS.out
    have HY0 := Lib.hid hY0
    have HY1 := Lib.hid ((HXY.out.block _ (by omega)).trans HX0.out)
    have HBY := Lib.hid (HBX.out.trans (HXY.out.mono HBX.out.size))
    have HYS := Lib.hid (show w.heap.size < Y.heap.size ∧ w1.heap.size < Y.heap.size by have := HXY.out.size; omega)
    clear hY hBY hY0 hYs hxs HB1 HX0
    go_upto_region 5 with (first
      | (go_at_call 35; refine (HRO.out _).mono ?_; rintro e w2 ⟨rfl, hb⟩; have HB2 := Lib.hid hb; clear hb)
      | (refine wpList_store_row rfl 32 (.tmp 7) (.tmp 21) rfl _ _ rfl rfl _ _ (heap_alloc_new _ _) HIL.out (by rw [HLZ.out]; rfl) HOA.out ?_; rw [World.setRow_alloc_new]))
    obtain ⟨Z, hZ, hBZ, hZs, hZ0⟩ := alloc1 w2 (.cells lb 32)
    rw [hZ]
    have HYZ := Lib.hid (HB2.out.trans (hBZ.mono HB2.out.size))
    have hzl : w2.heap.size < Z.heap.size := by omega
    have hyz := HYZ.out.size
    have HZA := Lib.hid (fun W (hW : Below Z.heap.size Z W) => rng_of_row W w.heap.size _ _ _ ((hW.block _ (by have := HYS.out.1; omega)).trans ((HYZ.out.block _ HYS.out.1).trans HY1.out)))
    have HZB := Lib.hid (fun W (hW : Below Z.heap.size Z W) => rng_of_row W w1.heap.size _ _ _ ((hW.block _ (by have := HYS.out.2; omega)).trans ((HYZ.out.block _ HYS.out.2).trans HY0.out)))
    have HZC := Lib.hid (fun W (hW : Below Z.heap.size Z W) => rng_of_row W w2.heap.size _ _ _ ((hW.block _ hzl).trans hZ0))
    have HV := Lib.hid (HBY.out.trans (HYZ.out.mono HBY.out.size))
    clear hZ hBZ hZ0 hZs hzl hyz HB2 HY0 HY1
    -- REG A BEGIN
    refine wp_region_held_drew (S := fun W => Below Z.heap.size Z W) (by kernel_rfl) ((Below.refl Z.heap.size Z).drew) (fun hHeld => ?_)
    refine wpAnyH_take (i := 0) rfl (by kernel_rfl) (by kernel_rfl) (by kernel_rfl) (fun _ _ _ h => h) (yieldsIf_load_mid (by rfl) 32 (.tmp 2) rfl _ _ rfl (bb.toList) _ (fun _ h => HZA.out _ h) Tryd.underlying32 rfl (HIB.out)) (by assumption) ?_
    try simp only [List.getElem_toArray, List.getElem_cons_zero, List.getElem_cons_succ, Act.put, List.setIfInBounds_toArray, List.set_cons_zero, List.set_cons_succ]
    refine wpAnyH_take (i := 2) rfl (by kernel_rfl) (by kernel_rfl) (by kernel_rfl) (fun _ _ _ h => h) (yieldsIf_load_mid (by rfl) 32 (.tmp 2) rfl _ _ rfl (bb.toList) _ (fun _ h => HZA.out _ h) Tryd.underlying32 rfl (HIB.out)) (by assumption) ?_
    try simp only [List.getElem_toArray, List.getElem_cons_zero, List.getElem_cons_succ, Act.put, List.setIfInBounds_toArray, List.set_cons_zero, List.set_cons_succ]
    refine wpAnyH_ready (rs := [1]) (by kernel_rfl) (by simp) ?_
    refine AllReadyH.cons (i := 1) rfl (fun K hK => ?_) AllReadyH.nil
    go_simp
    go_at_call 36
    (with_reducible refine Calls.mono (HTX.out _) ?_)
    rintro e w_1 ⟨rfl, hb⟩
    have HB_2 := Lib.hid (((Below.refl Z.heap.size Z).drew).trans (hb.mono ((Below.refl Z.heap.size Z).drew).size))
    clear hb
    refine hK.out _ _ (HB_2.out) (fun hHeld' => ?_)
    clear hHeld hK K
    have hHeld := hHeld'
    clear hHeld'
    try simp only [List.getElem_toArray, List.getElem_cons_zero, List.getElem_cons_succ, Act.put, List.setIfInBounds_toArray, List.set_cons_zero, List.set_cons_succ]
    refine wpAnyH_ready (rs := [3]) (by kernel_rfl) (by simp) ?_
    refine AllReadyH.cons (i := 3) rfl (fun K hK => ?_) AllReadyH.nil
    go_simp
    go_at_call 37
    (with_reducible refine Calls.mono (HRT.out _) ?_)
    rintro e w_3 ⟨rfl, hb⟩
    have HB_4 := Lib.hid ((HB_2.out).trans (hb.mono (HB_2.out).size))
    clear hb
    refine hK.out _ _ (HB_4.out) (fun hHeld' => ?_)
    clear hHeld hK K
    have hHeld := hHeld'
    clear hHeld'
    try simp only [List.getElem_toArray, List.getElem_cons_zero, List.getElem_cons_succ, Act.put, List.setIfInBounds_toArray, List.set_cons_zero, List.set_cons_succ]
    refine wpAnyH_take (i := 4) (v := ?v1) rfl (by kernel_rfl) (by kernel_rfl) (by kernel_rfl) (fun _ _ _ h => h) (Or.inl ⟨by rfl, ?y1⟩) (by assumption) ?r1
    case y1 =>
      intro w' hSw
      go_split_ands
      go_simp
      try with_reducible rfl
    try simp only [List.getElem_toArray, List.getElem_cons_zero, List.getElem_cons_succ, Act.put, List.setIfInBounds_toArray, List.set_cons_zero, List.set_cons_succ]
    refine wpAnyH_take (i := 5) (v := ?v2) rfl (by kernel_rfl) (by kernel_rfl) (by kernel_rfl) (fun _ _ _ h => h) (Or.inl ⟨by rfl, ?y2⟩) (by assumption) ?r2
    case y2 =>
      intro w' hSw
      go_split_ands
      go_simp
      try with_reducible rfl
    try simp only [List.getElem_toArray, List.getElem_cons_zero, List.getElem_cons_succ, Act.put, List.setIfInBounds_toArray, List.set_cons_zero, List.set_cons_succ]
    refine wpAnyH_take (i := 6) rfl (by kernel_rfl) (by kernel_rfl) (by kernel_rfl) (fun _ _ _ h => h) (yieldsIf_load_mid (by rfl) 32 (.tmp 5) rfl _ _ rfl (lb.toList) _ (fun _ h => HZB.out _ h) Tryd.underlying32 rfl (HIL2.out)) (by assumption) ?_
    try simp only [List.getElem_toArray, List.getElem_cons_zero, List.getElem_cons_succ, Act.put, List.setIfInBounds_toArray, List.set_cons_zero, List.set_cons_succ]
    refine wpAnyH_take (i := 7) rfl (by kernel_rfl) (by kernel_rfl) (by kernel_rfl) (fun _ _ _ h => h) (yieldsIf_load_mid (by rfl) 32 (.tmp 7) rfl _ _ rfl (lb.toList) _ (fun _ h => HZC.out _ h) Tryd.underlying32 rfl (HIL2.out)) (by assumption) ?_
    try simp only [List.getElem_toArray, List.getElem_cons_zero, List.getElem_cons_succ, Act.put, List.setIfInBounds_toArray, List.set_cons_zero, List.set_cons_succ]
    refine wpAnyH_take (i := 8) (v := ?v3) rfl (by kernel_rfl) (by kernel_rfl) (by kernel_rfl) (fun _ _ _ h => h) (Or.inl ⟨by rfl, ?y3⟩) (by assumption) ?r3
    case y3 =>
      intro w' hSw
      go_split_ands
      go_simp
      try with_reducible rfl
    try simp only [List.getElem_toArray, List.getElem_cons_zero, List.getElem_cons_succ, Act.put, List.setIfInBounds_toArray, List.set_cons_zero, List.set_cons_succ]
    refine wpAnyH_take (i := 9) (v := ?v4) rfl (by kernel_rfl) (by kernel_rfl) (by kernel_rfl) (fun _ _ _ h => h) (Or.inl ⟨by rfl, ?y4⟩) (by assumption) ?r4
    case y4 =>
      intro w' hSw
      go_split_ands
      go_simp
      try with_reducible rfl
    try simp only [List.getElem_toArray, List.getElem_cons_zero, List.getElem_cons_succ, Act.put, List.setIfInBounds_toArray, List.set_cons_zero, List.set_cons_succ]
    refine wpAnyH_take (i := 10) (v := ?v5) rfl (by kernel_rfl) (by kernel_rfl) (by kernel_rfl) (fun _ _ _ h => h) (Or.inl ⟨by rfl, ?y5⟩) (by assumption) ?r5
    case y5 =>
      intro w' hSw
      go_split_ands
      go_simp
      try with_reducible rfl
    try simp only [List.getElem_toArray, List.getElem_cons_zero, List.getElem_cons_succ, Act.put, List.setIfInBounds_toArray, List.set_cons_zero, List.set_cons_succ]
    refine wpAnyH_take (i := 11) (v := ?v6) rfl (by kernel_rfl) (by kernel_rfl) (by kernel_rfl) (fun _ _ _ h => h) (Or.inl ⟨by rfl, ?y6⟩) (by assumption) ?r6
    case y6 =>
      intro w' hSw
      go_split_ands
      go_simp
      try with_reducible rfl
    try simp only [List.getElem_toArray, List.getElem_cons_zero, List.getElem_cons_succ, Act.put, List.setIfInBounds_toArray, List.set_cons_zero, List.set_cons_succ]
    refine wpAnyH_take (i := 12) (v := ?v7) rfl (by kernel_rfl) (by kernel_rfl) (by kernel_rfl) (fun _ _ _ h => h) (Or.inl ⟨by rfl, ?y7⟩) (by assumption) ?r7
    case y7 =>
      intro w' hSw
      go_split_ands
      go_simp
      try with_reducible rfl
    try simp only [List.getElem_toArray, List.getElem_cons_zero, List.getElem_cons_succ, Act.put, List.setIfInBounds_toArray, List.set_cons_zero, List.set_cons_succ]
    refine wpAnyH_take (i := 13) (v := ?v8) rfl (by kernel_rfl) (by kernel_rfl) (by kernel_rfl) (fun _ _ _ h => h) (Or.inl ⟨by rfl, ?y8⟩) (by assumption) ?r8
    case y8 =>
      intro w' hSw
      go_split_ands
      go_simp
      try with_reducible rfl
    try simp only [List.getElem_toArray, List.getElem_cons_zero, List.getElem_cons_succ, Act.put, List.setIfInBounds_toArray, List.set_cons_zero, List.set_cons_succ]
    refine wpAnyH_take (i := 14) (v := ?v9) rfl (by kernel_rfl) (by kernel_rfl) (by kernel_rfl) (fun _ _ _ h => h) (Or.inl ⟨by rfl, ?y9⟩) (by assumption) ?r9
    case y9 =>
      intro w' hSw
      go_split_ands
      go_simp
      try with_reducible rfl
    try simp only [List.getElem_toArray, List.getElem_cons_zero, List.getElem_cons_succ, Act.put, List.setIfInBounds_toArray, List.set_cons_zero, List.set_cons_succ]
    refine wpAnyH_take (i := 15) (v := ?v10) rfl (by kernel_rfl) (by kernel_rfl) (by kernel_rfl) (fun _ _ _ h => h) (Or.inl ⟨by rfl, ?y10⟩) (by assumption) ?r10
    case y10 =>
      intro w' hSw
      go_split_ands
      go_simp
      try with_reducible rfl
    try simp only [List.getElem_toArray, List.getElem_cons_zero, List.getElem_cons_succ, Act.put, List.setIfInBounds_toArray, List.set_cons_zero, List.set_cons_succ]
    refine wpAnyH_ready (rs := [16]) (by kernel_rfl) (by simp) ?_
    refine AllReadyH.cons (i := 16) rfl (fun K hK => ?_) AllReadyH.nil
    go_simp
    go_at_call 23
    (with_reducible refine Calls.mono (HAW.out _ (HV.out.trans ((HB_4.out).mono HV.out.size))) ?_)
    rintro e w_5 ⟨rfl, hb⟩
    have HB_6 := Lib.hid ((HB_4.out).trans (hb.mono (HB_4.out).size))
    clear hb
    refine hK.out _ _ (HB_6.out) (fun hHeld' => ?_)
    clear hHeld hK K
    have hHeld := hHeld'
    clear hHeld'
    try simp only [List.getElem_toArray, List.getElem_cons_zero, List.getElem_cons_succ, Act.put, List.setIfInBounds_toArray, List.set_cons_zero, List.set_cons_succ]
    refine wpAnyH_take (i := 17) (v := ?v11) rfl (by kernel_rfl) (by kernel_rfl) (by kernel_rfl) (fun _ _ _ h => h) (Or.inl ⟨by rfl, ?y11⟩) (by assumption) ?r11
    case y11 =>
      intro w' hSw
      go_split_ands
      go_simp
      try with_reducible rfl
    try simp only [List.getElem_toArray, List.getElem_cons_zero, List.getElem_cons_succ, Act.put, List.setIfInBounds_toArray, List.set_cons_zero, List.set_cons_succ]
    refine wpAnyH_take (i := 18) (v := ?v12) rfl (by kernel_rfl) (by kernel_rfl) (by kernel_rfl) (fun _ _ _ h => h) (Or.inl ⟨by rfl, ?y12⟩) (by assumption) ?r12
    case y12 =>
      intro w' hSw
      go_split_ands
      go_simp
      try with_reducible rfl
    try simp only [List.getElem_toArray, List.getElem_cons_zero, List.getElem_cons_succ, Act.put, List.setIfInBounds_toArray, List.set_cons_zero, List.set_cons_succ]
    refine wpAnyH_done (by kernel_rfl) ?_ _
    go_wp2
    go_ret
    exact ⟨rfl, (HV.out.trans ((HB_6.out).mono HV.out.size))⟩
    -- REG A END
  · have hl' : (3000 : Int) < ((strB xs).size : Int) := by omega
    obtain ⟨S, hS⟩ : ∃ s, strB xs = s := ⟨_, rfl⟩
    rw [hS] at hss hl' ⊢
    rw [hbb]
    clear hG hbb hS
    go_enter Tryd.func7, Tryd.ntmps7
    go_upto_region 1 with fail
    obtain ⟨X, hX, hBX, hXs, hX0⟩ := alloc1 w (.cells bb 32)
    rw [hX]
    have HBX := Lib.hid hBX
    clear hX hBX hX0 hXs
    go_wp2_with (go_at_call 23; refine (HAW.out _ HBX.out).mono ?_; rintro e w5 ⟨rfl, hbw⟩)
    go_ret
    exact ⟨rfl, HBX.out.trans (hbw.mono HBX.out.size)⟩
end Go.Proofs.YtnoilogepkelaaaDoor
