/-
  The law ShaGoesOn: its walk.
-/
import Derived.Test.YtnoilogepkelaaaDoorShaL5
import Derived.Test.YtnoilogepkelaaaDoorRsJ
namespace Go.Proofs.YtnoilogepkelaaaDoor
set_option linter.unusedVariables false
set_option linter.unusedSimpArgs false
open Go Go.RowKit

set_option maxRecDepth 100000 in
set_option maxHeartbeats 4000000 in
theorem law_shaGoesOn {w : World} (h : List (BitVec 8)) (hh : h.length = 32) (n : Int) (hwf : (Lit.int .i64 n).wf = true) (v : Value) (more : List (BitVec 8)) (hs : SlB w v more) (hG : Glob w) :
    Calls Tryd.prog 9 #[.agg (bytes h), .int .i64 n, v] w fun e w' => e = .returned (.bool true) ∧ Below w.heap.size w w' := by
  clear hwf
  obtain ⟨a0, cap0, rfl⟩ := hs.len
  have hgz := hG.size
  have HAW := Lib.hid (fun W (hB : Below w.heap.size w W) => awake_any W (hG.below hB hgz))
  have HS := Lib.hid hs
  obtain ⟨bb, hbb⟩ : ∃ bb, bytes h = bb := ⟨_, rfl⟩
  by_cases hl : more.length ≤ 3000
  · obtain ⟨L, c, hL, h1, h2⟩ : ∃ (L : List (BitVec 8)) (c : Int), L.length = 32 ∧
        (∀ W, Below w.heap.size w W → Calls Tryd.prog 29 #[.agg bb, .int .i64 n, .slice a0 more.length cap0] W fun e w' => e = .returned (.tuple #[.agg (bytes L), .int .i64 c]) ∧ Below W.heap.size W w') ∧
        (∀ W, Below w.heap.size w W → Calls Tryd.prog 38 #[.agg bb, .int .i64 n, .slice a0 more.length cap0] W fun e w' => e = .returned (.tuple #[.agg (bytes L), .int .i64 c]) ∧ Below W.heap.size W w') := by
      subst hbb
      by_cases hn : n < 0 ∨ 72057594037927936 < n
      · exact ⟨List.replicate 32 0, 2, by simp, fun W _ => resume_err h hh n hn _ W, fun W _ => rresume_err h hh n hn _ W⟩
      · obtain ⟨m, rfl⟩ : ∃ m : Nat, n = m := ⟨n.toNat, by omega⟩
        exact ⟨Sha.resume h m more, 0, Sha.told_length _, fun W hB => resume_any h hh m (by omega) more _ W (HS.out.below hB (Nat.le_refl _)) (by omega) (hG.below hB hgz), fun W hB => rresume_any h hh m (by omega) more _ W (HS.out.below hB (Nat.le_refl _)) (by omega)⟩
    have HRE := Lib.hid h1
    have HRR := Lib.hid h2
    have HIB := Lib.hid (show (Tryd.prog.info? 32).map (·.size) = some bb.size by rw [← hbb, bytes_size, hh]; kernel_rfl)
    have HIL := Lib.hid (show (Tryd.prog.info? 32).map (·.size) = some (bytes L).size by rw [bytes_size, hL]; kernel_rfl)
    have HEQ := Lib.hid (fun W => run_eql_hash (n := 32) Tryd.underlying32 (by kernel_rfl) L hL W)
    have HOA := Lib.hid (bytes_one L)
    have HLZ := Lib.hid (show (bytes L).size = 32 by rw [bytes_size, hL])
    obtain ⟨lb, hlb⟩ : ∃ lb, bytes L = lb := ⟨_, rfl⟩
    rw [hlb] at HRE HRR HIL HEQ HOA HLZ
    obtain ⟨n0, hn0⟩ : ∃ n, more.length = n := ⟨_, rfl⟩
    rw [hn0] at hl HRE HRR ⊢
    rw [hbb]
    have hq1 := fun x y W => (HEQ.out W).1 x y
    have hq2 := fun W => (HEQ.out W).2
    have hnl0 : ¬ (3000 : Int) < (n0 : Int) := by omega
    clear h1 h2 hL hlb hn0 hbb hs hG HEQ hh HS
    go_enter Tryd.func9, Tryd.ntmps9
    go_upto_region 3 with fail
    obtain ⟨X, hX, hBX, hXs, hX0⟩ := alloc1 w (.cells bb 32)
    rw [hX]
    have HBX := Lib.hid hBX
    have HX0 := Lib.hid hX0
    have HXS := Lib.hid hXs
    clear hX hBX hX0 hXs
    go_upto_region 4 with (first
      | (refine wpList_load_row rfl 32 (.tmp 3) rfl w.heap.size rfl _ _ _ _ HX0.out Tryd.underlying32 rfl HIB.out ?_)
      | (go_at_call 29; refine (HRE.out _ HBX.out).mono ?_; rintro e w1 ⟨rfl, hb⟩; have HB1 := Lib.hid hb; clear hb)
      | (refine wpList_store_row rfl 32 (.tmp 7) (.tmp 20) rfl _ _ rfl rfl _ _ (heap_alloc_new _ _) HIL.out (by rw [HLZ.out]; rfl) HOA.out ?_; rw [World.setRow_alloc_new]))
    obtain ⟨Y, hY, hBY, hYs, hY0⟩ := alloc1 w1 (.cells lb 32)
    rw [hY]
    have HXY := Lib.hid (HB1.out.trans (hBY.mono HB1.out.size))
    have hxs := HXS.out
    have HY0 := Lib.hid hY0
    have HY1 := Lib.hid ((HXY.out.block _ (by omega)).trans HX0.out)
    have HBY := Lib.hid (HBX.out.trans (HXY.out.mono HBX.out.size))
    have HYS := Lib.hid hYs
    clear hY hBY hY0 hYs hxs HB1 HX0
    go_upto_region 5 with (first
      | (refine wpList_load_row rfl 32 (.tmp 3) rfl w.heap.size rfl _ _ _ _ HY1.out Tryd.underlying32 rfl HIB.out ?_)
      | (go_at_call 38; refine (HRR.out _ HBY.out).mono ?_; rintro e w2 ⟨rfl, hb⟩; have HB2 := Lib.hid hb; clear hb)
      | (refine wpList_store_row rfl 32 (.tmp 9) (.tmp 27) rfl _ _ rfl rfl _ _ (heap_alloc_new _ _) HIL.out (by rw [HLZ.out]; rfl) HOA.out ?_; rw [World.setRow_alloc_new]))
    obtain ⟨Z, hZ, hBZ, hZs, hZ0⟩ := alloc1 w2 (.cells lb 32)
    rw [hZ]
    have HYZ := Lib.hid (HB2.out.trans (hBZ.mono HB2.out.size))
    have hys := HYS.out
    have HZ0 := Lib.hid hZ0
    have HZ1 := Lib.hid ((HYZ.out.block _ (by omega)).trans HY0.out)
    have HBZ := Lib.hid (HBY.out.trans (HYZ.out.mono HBY.out.size))
    clear hZ hBZ hZ0 hZs hys HB2 HY0 HY1
    go_wp2_with (first
      | (refine wpList_load_row rfl 32 (.tmp 7) rfl w1.heap.size rfl _ _ _ _ HZ1.out Tryd.underlying32 rfl HIL.out ?_)
      | (refine wpList_load_row rfl 32 (.tmp 9) rfl w2.heap.size rfl _ _ _ _ HZ0.out Tryd.underlying32 rfl HIL.out ?_)
      | (go_at_call 23; refine (HAW.out _ HBZ.out).mono ?_; rintro e w6 ⟨rfl, hb⟩; have HB6 := Lib.hid (HBZ.out.trans (hb.mono HBZ.out.size)); clear hb))
    go_ret
    exact ⟨rfl, HB6.out⟩
  · have hl' : (3000 : Int) < (more.length : Int) := by omega
    generalize more.length = n0 at *
    rw [hbb]
    clear hs hG HS hbb
    go_enter Tryd.func9, Tryd.ntmps9
    go_upto_region 1 with fail
    obtain ⟨X, hX, hBX, hXs, hX0⟩ := alloc1 w (.cells bb 32)
    rw [hX]
    have HBX := Lib.hid hBX
    clear hX hBX hX0 hXs
    go_wp2_with (go_at_call 23; refine (HAW.out _ HBX.out).mono ?_; rintro e w5 ⟨rfl, hbw⟩)
    go_ret
    exact ⟨rfl, HBX.out.trans (hbw.mono HBX.out.size)⟩
end Go.Proofs.YtnoilogepkelaaaDoor
