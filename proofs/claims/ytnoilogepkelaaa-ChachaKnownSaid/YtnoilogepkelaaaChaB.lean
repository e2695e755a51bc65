/-
  chacha.begin: a state at first.
-/
import Derived.Test.YtnoilogepkelaaaChaW
import Derived.Deep.RegionWith
import Derived.Deep.DeepCutAuto
namespace Go.Proofs.Ytnoilogepkelaaa
set_option linter.unusedVariables false
set_option linter.unusedSimpArgs false
open Go Go.RowKit
attribute [local go_sem] shape?_at shape?_past markS_drew markS_size markS_cell


set_option maxHeartbeats 1000000 in
theorem begin_any (key nonce : List (BitVec 8)) (c : BitVec 32) (w : World) (hk : key.length = 32) (hn : nonce.length = 12) :
    Calls Try.prog 19 #[.agg (bytes key), .int .u32 (wv c), .agg (bytes nonce)] w fun e w' => e = .returned (.agg (words (Cha.begin key c nonce))) ∧ Below w.heap.size w w' := by
  have HK := Lib.hid hk
  have HN := Lib.hid hn
  obtain ⟨kb, hkb⟩ : ∃ kb, bytes key = kb := ⟨_, rfl⟩
  obtain ⟨nb, hnb⟩ : ∃ nb, bytes nonce = nb := ⟨_, rfl⟩
  rw [hkb, hnb]
  have HKB := Lib.hid hkb
  have HNB := Lib.hid hnb
  clear hk hn hkb hnb
  have kc := fun (w : World) (b o n c : Nat) => run_convert_same (P := Try.prog) w 40 5 b o n c Try.underlying40 Try.underlying5
  have hmk : ∀ w, (Instr.makeSlice 40 (.int .i64 4) (.int .i64 4)).run Try.prog w = .ok (.slice (some ⟨w.heap.size, 0, none⟩) 4 4) (w.alloc (.cells #[.int .u8 0, .int .u8 0, .int .u8 0, .int .u8 0] 5)) := fun _ => by kernel_rfl
  go_enter Try.func19, Try.ntmps19
  go_upto_region 1 with fail
  obtain ⟨W, hW, hBW, hWs, hWk, hWn, hWo⟩ := alloc3 w (Obj.cells kb 29) (Obj.cells nb 31) (Obj.cells (words (List.replicate 16 0)) 55)
  have hW' := hW
  simp only [words, List.replicate, List.map] at hW'
  rw [show (Value.int .u32 (wv 0)) = .int .u32 0 from rfl] at hW'
  rw [hW']
  have HWk := Lib.hid hWk
  have HWn := Lib.hid hWn
  have HWo := Lib.hid hWo
  have HWs := Lib.hid hWs
  have hz1 : w.heap.size + 2 < W.heap.size := by omega
  clear hWk hWn hWs hWo hW hW'
  have HSk : SlB W (.slice (some ⟨w.heap.size, 0, none⟩) 32 32) key := SlB.ofRow (C := kb) (by rw [← HKB.out, bytes_toList]) HK.out.symm (by omega) (fun j => cell_of_row W _ j _ _ _ HWk.out) (by rw [HK.out]; exact Nat.le_refl _) (by decide)
  have HSn : SlB W (.slice (some ⟨w.heap.size + 1, 0, none⟩) 12 12) nonce := SlB.ofRow (C := nb) (by rw [← HNB.out, bytes_toList]) HN.out.symm (by omega) (fun j => cell_of_row W _ j _ _ _ HWn.out) (by rw [HN.out]; exact Nat.le_refl _) (by decide)
  go_cut [7] (fun s7 wx => ∃ g cap, s7 = .slice (some ⟨g, 0, none⟩) 64 cap ∧ 64 ≤ cap ∧ W.heap.size ≤ g ∧ g < wx.heap.size ∧ SlB wx (.slice (some ⟨g, 0, none⟩) 64 cap) (Cha.head ++ key ++ [0, 0, 0, 0] ++ nonce) ∧ Below W.heap.size W wx)
  case first =>
    go_region_with (go_at_call 25; go_loud (refine Calls.mono (concat4 _ _ _ _ _ _ Cha.head key [0, 0, 0, 0] nonce _ _ (heapA_new _ _ _ (by simp [markS_size])) (SlB.ofRow (C := (bcells Cha.head).toArray) rfl rfl (by first | (simp [markS_size]; done) | (simp [markS_size]; omega)) (fun j => by simp (disch := first | (simp [markS_size]; done) | (simp [markS_size]; omega)) [markS_cell, World.cell?_alloc_at, World.cell?_alloc_past, Cha.head, bcells, byteV, bv]) (by decide) (by decide)) (HSk.below (B := W.heap.size) (by repeat (first | with_reducible exact Below.refl _ _ | with_reducible refine Below.drew ?_ | with_reducible refine Below.markS ?_ _ (by simp) | with_reducible refine Below.alloc ?_ (by first | (simp [markS_size]; done) | (simp [markS_size]; omega)) _)) (Nat.le_refl _)) (SlB.ofRow (C := (bcells [0, 0, 0, 0]).toArray) rfl rfl (by first | (simp [markS_size]; done) | (simp [markS_size]; omega)) (fun j => by simp (disch := first | (simp [markS_size]; done) | (simp [markS_size]; omega)) [markS_cell, World.cell?_alloc_at, World.cell?_alloc_past, bcells, byteV, bv]) (by decide) (by decide)) (HSn.below (B := W.heap.size) (by repeat (first | with_reducible exact Below.refl _ _ | with_reducible refine Below.drew ?_ | with_reducible refine Below.markS ?_ _ (by simp) | with_reducible refine Below.alloc ?_ (by first | (simp [markS_size]; done) | (simp [markS_size]; omega)) _)) (Nat.le_refl _)) (by rw [HK.out, HN.out]; decide)) ?_; rintro e w1 ⟨v, rfl, hv, hb1⟩))
    all_goals (go_wp2_with fail; go_meet)
    all_goals obtain ⟨g, cap, rfl, hgb, hgl, hcap, hsl⟩ := hv.form 64 (by simp [Cha.head, HK.out, HN.out]) (by omega)
    all_goals refine ⟨g, cap, rfl, hcap, by (have := hgb; simp [markS_size] at this; omega), hgl, hsl, Below.trans ?_ (hb1.mono (by first | (simp [markS_size]; done) | (simp [markS_size]; omega)))⟩
    all_goals repeat (first | with_reducible exact Below.refl _ _ | with_reducible refine Below.drew ?_ | with_reducible refine Below.markS ?_ _ (by simp) | with_reducible refine Below.alloc ?_ (by first | (simp [markS_size]; done) | (simp [markS_size]; omega)) _)
  case rest =>
    obtain ⟨g, cap, rfl, hcap, hg0', hg1, hs, hb1⟩ := hcut
    have hg0 : w.heap.size + 2 < g := by omega
    have hall := Lib.hid (show Cha.begin key c nonce = ((List.range 16).map (Cha.wordAt (Cha.head ++ key ++ [0, 0, 0, 0] ++ nonce))).set 12 c from rfl)
    have hlen := Lib.hid (show (Cha.head ++ key ++ [0, 0, 0, 0] ++ nonce).length = 64 by simp [Cha.head, HK.out, HN.out])
    generalize Cha.head ++ key ++ [0, 0, 0, 0] ++ nonce = all at hs hall hlen
    have hst := Lib.hid ((hb1.block (w.heap.size + 2) hz1).trans HWo.out)
    have hbw := hBW.trans (hb1.mono (by omega))
    clear HWk HWn HWo HSk HSn HKB HNB hb1
    have hB : w.heap.size + 2 < W.heap.size := hz1
    go_wp2
    go_loopw [16] (fun i wr => ∃ k : Nat, k ≤ 16 ∧ i = .int .i64 k ∧ Hid (wr.heap[w.heap.size + 2]? = some (.cells (words (fill (Cha.wordAt all) 0 16 k)) 55 (0, 0))) ∧ w.heap.size + 2 < g ∧ g < wr.heap.size ∧
        SlB wr (.slice (some ⟨g, 0, none⟩) 64 cap) all ∧ Below w.heap.size w wr) (fun i _ => 16 - (intOf i).toNat)
    case atStart => exact ⟨0, by omega, rfl, by rw [fill_zero]; exact hst, hg0, hg1, hs, hbw⟩
    case round =>
      obtain ⟨k, hk, rfl, HB, hgk, hgw, hsk, hbk⟩ := hrel
      by_cases hlt : k < 16
      · have hsd := hsk.drop (4 * k) (by omega)
        have hne : ¬ cap = 4 * k := by omega
        rw [Nat.zero_add] at hsd
        have hcw := chaword_any _ _ wr hsd (by simp [hlen.out]; omega)
        rw [show Cha.le4 ((all.drop (4 * k)).getD 0 0) ((all.drop (4 * k)).getD 1 0) ((all.drop (4 * k)).getD 2 0) ((all.drop (4 * k)).getD 3 0) = Cha.wordAt all k by simp [Cha.wordAt]] at hcw
        have HCW := Lib.hid hcw
        have HF := Lib.hid (fill_set (Cha.wordAt all) 0 16 k hlt)
        generalize hx : Cha.wordAt all k = x at HCW HF
        have hz := hbk.size
        clear hcw hx hsd
        go_wp2_with fail
        refine HCW.out.mono ?_
        rintro e w1 ⟨rfl, hb1⟩
        have hblk := (hb1.block (w.heap.size + 2) (by have := hbk.size; have := (Array.getElem?_eq_some_iff.1 HB.out).1; omega)).trans HB.out
        have hcell := (cell_of_row w1 (w.heap.size + 2) k _ _ _ hblk).trans (words_get? _ k (by rw [fill_length _ _ _ _ hk]; omega))
        have hfr := frozen_of_row w1 (w.heap.size + 2) k _ _ hblk
        have hset := heap_setCell_same w1 (w.heap.size + 2) k _ _ (.int .u32 (wv x)) hblk
        rw [words_set, HF.out] at hset
        have HSET := Lib.hid hset
        have hs1 := hsk.below hb1 (Nat.le_refl _)
        have hb2 := hbk.trans (hb1.mono hz)
        have hb1z := hb1.size
        generalize (fill (Cha.wordAt all) 0 16 k).getD k 0 = y at hcell
        clear hblk hset hb1 hsk
        go_wp2
        go_roundw
        case rel => exact ⟨k + 1, by omega, by go_num, HSET.out, hgk, by (have := hb1z; simp [World.setCell]; omega), hs1.setCell (by omega) _, hb2.setCell (by show w.heap.size ≤ w.heap.size + 1 + 1; omega) _⟩
        case measure => simp [intOf]; omega
      · obtain rfl : k = 16 := by omega
        rw [fill_all] at HB
        have hc12 := (cell_of_row wr (w.heap.size + 2) 12 _ _ _ HB.out).trans (words_get? _ 12 (by simp))
        have hf12 := frozen_of_row wr (w.heap.size + 2) 12 _ _ HB.out
        have hset := heap_setCell_same wr (w.heap.size + 2) 12 _ _ (.int .u32 (wv c)) HB.out
        rw [words_set, ← hall.out] at hset
        have HSET := Lib.hid hset
        have hlb : (Cha.begin key c nonce).length = 16 := by rw [hall.out]; simp
        have hi := Lib.hid (show (Try.prog.info? 55).map (·.size) = some (words (Cha.begin key c nonce)).size by rw [words_size, hlb]; kernel_rfl)
        generalize ((List.range 16).map (Cha.wordAt all)).getD 12 0 = y at hc12
        clear hset hlb HB hsk
        go_wp2_with (first
          | (refine wpList_load_row rfl 55 (.tmp 6) rfl (w.heap.size + 1 + 1) rfl _ _ _ _ HSET.out Try.underlying55 rfl hi.out ?_)
          | (refine wpList_store_row rfl 55 (.tmp 6) (.tmp 29) rfl (w.heap.size + 1 + 1) _ rfl rfl _ _ HSET.out hi.out rfl (words_one _) ?_; rw [setRow_self _ _ _ _ _ HSET.out]))
        refine bodyPost_ret (results_cell_row Try.results19 _ _ (w.heap.size + 1 + 1) _ _ _ _ rfl HSET.out Try.underlying55 rfl hi.out) rfl ⟨rfl, ?_⟩
        exact hbk.setCell (by show w.heap.size ≤ w.heap.size + 1 + 1; omega) _
end Go.Proofs.Ytnoilogepkelaaa
