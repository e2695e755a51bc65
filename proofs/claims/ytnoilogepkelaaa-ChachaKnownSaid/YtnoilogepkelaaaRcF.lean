/-
  The document's answer for chacha: First.
-/
import Derived.Test.YtnoilogepkelaaaRcQ
import Derived.Test.YtnoilogepkelaaaLibs
import Derived.Deep.RegionWith
import Derived.Deep.DeepCutAuto
namespace Go.Proofs.Ytnoilogepkelaaa
set_option linter.unusedVariables false
set_option linter.unusedSimpArgs false
open Go Go.RowKit

theorem info_u32 : (Try.prog.info? 22).map (fun i => (i.zero, i.size, i.bytes)) = some (some (.int .u32 0), 1, 4) := by kernel_rfl
theorem rangeMap_succ {α : Type} (f : Nat → α) (k : Nat) : (List.range (k + 1)).map f = (List.range k).map f ++ [f k] := by simp [List.range_succ]
theorem take_one {α : Type} (xs : List α) (k : Nat) (h : k < xs.length) (d : α) : xs.take (k + 1) = xs.take k ++ [xs.getD k d] := by
  rw [List.take_succ_eq_append_getElem h]
  simp [h]
theorem oneB (w : World) (x : BitVec 8) (t : TypeId) : SlB (w.alloc (.cells #[.int .u8 (bv x)] t)) (.slice (some ⟨w.heap.size, 0, none⟩) 1 1) [x] :=
  SlB.block (xs := [x]) (heap_alloc_new w _) 0 1 (Nat.le_refl _) (by decide) (fun j hj => match j, hj with | 0, _ => rfl)
theorem oneW (w : World) (x : BitVec 32) (t : TypeId) : SlW (w.alloc (.cells #[.int .u32 (wv x)] t)) (.slice (some ⟨w.heap.size, 0, none⟩) 1 1) [x] :=
  SlW.block (xs := [x]) (heap_alloc_new w _) 0 1 (Nat.le_refl _) (by decide) (fun j hj => match j, hj with | 0, _ => rfl)

set_option maxHeartbeats 1000000 in
theorem rfirst_any (key nonce : List (BitVec 8)) (c : BitVec 32) (w : World) (hk : key.length = 32) (hn : nonce.length = 12) :
    Calls Try.prog 21 #[.agg (bytes key), .int .u32 (wv c), .agg (bytes nonce)] w fun e w' => ∃ v', e = .returned v' ∧ OwnW 22 w.heap.size w' v' (Cha.begin key c nonce) ∧ Below w.heap.size w w' := by
  have HK := Lib.hid hk
  have HN := Lib.hid hn
  have HBE := Lib.hid (Cha.begin_eq key c nonce hk hn)
  generalize Cha.begin key c nonce = beg at HBE
  obtain ⟨kb, hkb⟩ : ∃ kb, bytes key = kb := ⟨_, rfl⟩
  obtain ⟨nb, hnb⟩ : ∃ nb, bytes nonce = nb := ⟨_, rfl⟩
  rw [hkb, hnb]
  have HKB := Lib.hid hkb
  have HNB := Lib.hid hnb
  clear hk hn hkb hnb
  go_enter Try.func21, Try.ntmps21
  go_upto_region 2 with fail
  obtain ⟨W, hW, hBW, hWs, hWk, hWn⟩ := alloc2 w (Obj.cells kb 29) (Obj.cells nb 30)
  rw [hW]
  rw [← HKB.out] at hWk
  rw [← HNB.out] at hWn
  have HWk := Lib.hid hWk
  have HWn := Lib.hid hWn
  have hbase : W.heap.size = w.heap.size + 2 := hWs
  obtain ⟨V, hV, hBV, hVs, hVk⟩ := alloc1 W (Obj.cells (words [0x61707865, 0x3320646e, 0x79622d32, 0x6b206574]) 22)
  have hown := OwnW.made (E := 22) (base := W.heap.size) W [0x61707865, 0x3320646e, 0x79622d32, 0x6b206574] (Nat.le_refl _) (by decide)
  rw [hV, show W.heap.size = w.heap.size + 1 + 1 from hbase] at hown
  rw [show W.alloc (Obj.cells #[.int .u32 1634760805, .int .u32 857760878, .int .u32 2036477234, .int .u32 1797285236] 22) = V from hV]
  have hVk0 := Lib.hid ((hBV.block (w.heap.size) (by omega)).trans HWk.out)
  have hVn0 := Lib.hid ((hBV.block (w.heap.size + 1) (by omega)).trans HWn.out)
  have hwV := hBW.trans (hBV.mono (by omega))
  have HOWN := Lib.hid hown
  have hVs' : V.heap.size = w.heap.size + 3 := by omega
  clear hown hVk hWk hWn hW hWs HKB HNB hBV hBW hV HWk HWn hVs hbase
  go_wp2
  go_loopw [8, 9] (fun s i wr => ∃ k : Nat, k ≤ 32 ∧ i = .int .i64 k ∧ OwnB 5 V.heap.size wr s (key.take k) ∧ Below V.heap.size V wr) (fun _ i _ => 32 - (intOf i).toNat)
  case atStart => exact ⟨0, by omega, rfl, OwnB.nil _ _ _, Below.refl _ _⟩
  case round =>
    obtain ⟨k, hk, rfl, hok, hbk⟩ := hrel
    by_cases hlt : k < 32
    · have hc := (cell_of_row wr (w.heap.size) k _ _ _ ((hbk.block (w.heap.size) (by omega)).trans hVk0.out)).trans (bytes_get? key k (by rw [HK.out]; exact hlt))
      have HF := Lib.hid (take_one key k (by rw [HK.out]; exact hlt) 0)
      generalize key.getD k 0 = x at hc HF
      have hlen : (key.take k).length ≤ 32 := by simp; omega
      have hsz := hbk.size
      go_wp2_with (at_builtin; refine wpList_append_b rfl (.tmp 21) (.tmp 25) 40 5 rfl Try.underlying40 info_u8 V.heap.size _ _ (hok.alloc _) rfl _ _ (oneB wr x _) rfl (by simp; omega) (by simp; omega) ?_; intro v' w' ho hg hn'; have hb2 := (hbk.alloc hsz _).grown hg (by simp; omega) (fun k e => (World.ownsRow.lt hok k e).1); clear hg hn' hok hbk)
      go_roundw
      case rel => exact ⟨k + 1, by omega, by go_num, by rw [HF.out]; exact ho, hb2⟩
      case measure => simp [intOf]; omega
    · rw [show (k : Int) = 32 from by omega]
      obtain rfl : k = 32 := by omega
      rw [List.take_of_length_le (by rw [HK.out]; exact Nat.le_refl _)] at hok
      have hO := Lib.hid (HOWN.out.below hbk (Nat.le_refl _))
      have hN := (hbk.block (w.heap.size + 1) (by omega)).trans hVn0.out
      have hwr := hwV.trans (hbk.mono (by omega))
      clear hVk0 hVn0 HOWN hwV
      have hVr : V.heap.size ≤ wr.heap.size := hbk.size
      have hokB := hok
      have hVr0 : w.heap.size + 2 ≤ wr.heap.size := by omega
      generalize V.heap.size = VB at hok hokB
      clear hbk hok hVr
      generalize V = V' at *
      clear hVs'
      have HN0 := Lib.hid hN
      clear hN
      go_wp2
      go_loopw [7, 10, 11] (fun s i _ wx => ∃ k : Nat, k ≤ 8 ∧ i = .int .i64 k ∧ OwnW 22 (w.heap.size + 1 + 1) wx s ([1634760805, 857760878, 2036477234, 1797285236] ++ (List.range k).map (Cha.wordAt key)) ∧ OwnB 5 VB wx u8 key ∧ Below wr.heap.size wr wr ∧
          Hid (wx.heap[w.heap.size + 1]? = some (.cells (bytes nonce) 30 (0, 0))) ∧ Below w.heap.size w wx ∧ w.heap.size + 2 ≤ wx.heap.size) (fun _ i _ _ => 8 - (intOf i).toNat)
      case atStart => exact ⟨0, by omega, rfl, by simpa using hO.out, hokB, Below.refl _ _, HN0, hwr, hVr0⟩
      case round =>
        clear hokB hwr hVr0 HN0 hO
        obtain ⟨k, hk, rfl, ho, hb, -, HNx, hbx, hzx⟩ := hrel
        by_cases hlt : k < 8
        · have hcw := fun (w : World) (h : SlB w u8 key) => rword_any u8 key w h (4 * k) (by rw [HK.out]; omega)
          rw [show ((4 * k : Nat) : Int) = 4 * (k : Int) from by omega, show Cha.le4 (key.getD (4 * k) 0) (key.getD (4 * k + 1) 0) (key.getD (4 * k + 2) 0) (key.getD (4 * k + 3) 0) = Cha.wordAt key k from rfl] at hcw
          have HCW := Lib.hid hcw
          have HF := Lib.hid (rangeMap_succ (Cha.wordAt key) k)
          have hlen : ([1634760805, 857760878, 2036477234, 1797285236] ++ (List.range k).map (Cha.wordAt key)).length ≤ 12 := by simp; omega
          have HA := Lib.hid (List.append_assoc [1634760805, 857760878, 2036477234, 1797285236] ((List.range k).map (Cha.wordAt key)) [Cha.wordAt key k])
          generalize Cha.wordAt key k = x at hcw HCW HF HA
          clear hcw
          go_wp2_with (first
            | (go_at_call 27
               refine (HCW.out _ hb.sl).mono ?_
               rintro e w1 ⟨rfl, hb1⟩
               have ho1 := ho.below hb1 (Nat.le_refl _)
               have hB1 := hb.below hb1 (Nat.le_refl _)
               have hbx1 := hbx.trans (hb1.mono (by omega))
               have HN1 := Lib.hid ((hb1.block (w.heap.size + 1) (by omega)).trans HNx.out)
               have hz1 : w.heap.size + 2 ≤ w1.heap.size := by have := hb1.size; omega
               clear hb1 ho hb hbx HNx hzx)
            | (at_builtin; go_loud (
               refine wpList_append_w rfl (.tmp 35) (.tmp 37) 57 22 rfl Try.underlying57 info_u32 (w.heap.size + 1 + 1) _ _ (ho1.alloc _) rfl _ _ (oneW w1 x _) rfl (by simp; omega) (by simp; omega) ?_
               intro v' w' ho hg hn'
               have hb2 := (hbx1.alloc (by omega) (.cells #[.int .u32 (wv x)] 22)).grown hg (by simp; omega) (fun k e => by have := (World.ownsRow.lt ho1 k e).1; omega)
               have hB2 := (hB1.alloc (.cells #[.int .u32 (wv x)] 22)).grown hg (apart_wb ho1 hB1 (by decide))
               have HN2 := Lib.hid ((hg.block (w.heap.size + 1) (by simp; omega) (by intro e; have := (World.ownsRow.lt ho1 _ e.symm).1; omega)).trans ((heapA_old w1 _ _ (by omega)).trans HN1.out))
               have hz2 : w.heap.size + 2 ≤ w'.heap.size := by have := hg.size; simp at this; omega
               clear hg hn' ho1 hB1 HN1 hbx1)))
          go_roundw
          case rel => exact ⟨k + 1, by omega, by go_num, by rw [HF.out, ← HA.out]; exact ho, hB2, Below.refl _ _, HN2, hb2, hz2⟩
          case measure => simp [intOf]; omega
        · rw [show (k : Int) = 8 from by omega]
          obtain rfl : k = 8 := by omega
          clear hb hk hlt
          have hO := Lib.hid ho
          clear ho
          go_wp2_with (at_builtin; refine wpList_append_w rfl (.tmp 39) (.tmp 41) 57 22 rfl Try.underlying57 info_u32 (w.heap.size + 1 + 1) _ _ (hO.out.alloc _) rfl _ _ (oneW wr c _) rfl (by simp) (by simp; omega) ?_; intro v' w' ho hg hn'; have hb2 := (hbx.alloc (by omega) (.cells #[.int .u32 (wv c)] 22)).grown hg (by simp; omega) (fun k e => by have := (World.ownsRow.lt hO.out k e).1; omega); have HN2 := Lib.hid ((hg.block (w.heap.size + 1) (by simp; omega) (by intro e; have := (World.ownsRow.lt hO.out _ e.symm).1; omega)).trans ((heapA_old wr _ _ (by omega)).trans HNx.out)); have hz2 : w.heap.size + 2 ≤ w'.heap.size := (by have := hg.size; simp at this; omega); clear hg hn' hbx HNx hzx hO)
          have HO4 := Lib.hid ho
          have HX4 : Hid (([1634760805, 857760878, 2036477234, 1797285236] ++ List.map (Cha.wordAt key) (List.range 8) ++ [c]).length = 13) := Lib.hid (by simp)
          generalize [1634760805, 857760878, 2036477234, 1797285236] ++ List.map (Cha.wordAt key) (List.range 8) ++ [c] = pre at HO4 HX4 HBE
          clear ho
          generalize hwz : w'.heap.size = Z at hz2
          go_loopw [12, 13] (fun s i wx => ∃ k : Nat, k ≤ 12 ∧ i = .int .i64 k ∧ OwnB 5 Z wx s (nonce.take k) ∧ Below Z w' wx) (fun _ i _ => 12 - (intOf i).toNat)
          case atStart => exact ⟨0, by omega, rfl, OwnB.nil _ _ _, Below.refl _ _⟩
          case round =>
            obtain ⟨k, hk, rfl, hok, hbk⟩ := hrel
            by_cases hlt : k < 12
            · have hc := (cell_of_row wr (w.heap.size + 1) k _ _ _ ((hbk.block (w.heap.size + 1) (by omega)).trans HN2.out)).trans (bytes_get? nonce k (by rw [HN.out]; exact hlt))
              have HF := Lib.hid (take_one nonce k (by rw [HN.out]; exact hlt) 0)
              generalize nonce.getD k 0 = x at hc HF
              have hlen : (nonce.take k).length ≤ 12 := by simp; omega
              have hsz := hbk.size
              go_wp2_with (at_builtin; refine wpList_append_b rfl (.tmp 47) (.tmp 51) 40 5 rfl Try.underlying40 info_u8 Z _ _ (hok.alloc _) rfl _ _ (oneB wr x _) rfl (by simp; omega) (by simp; omega) ?_; intro v' w' ho hg hn'; have hb2 := (hbk.alloc (by omega) _).grown hg (by simp; omega) (fun k e => (World.ownsRow.lt hok k e).1); clear hg hn' hok hbk)
              go_roundw
              case rel => exact ⟨k + 1, by omega, by go_num, by rw [HF.out]; exact ho, hb2⟩
              case measure => simp [intOf]; omega
            · rw [show (k : Int) = 12 from by omega]
              obtain rfl : k = 12 := by omega
              rw [List.take_of_length_le (by rw [HN.out]; exact Nat.le_refl _)] at hok
              have hO := Lib.hid (HO4.out.below hbk (by omega))
              have hwr := hb2.trans (hbk.mono (by omega))
              have hVr0 : w.heap.size + 2 ≤ wr.heap.size := by have := hbk.size; omega
              clear HN2 HO4 hb2 hbk hz2 hwz
              go_wp2
              go_loopw [7, 14, 15] (fun s i _ wx => ∃ k : Nat, k ≤ 3 ∧ i = .int .i64 k ∧ OwnW 22 (w.heap.size + 1 + 1) wx s (pre ++ (List.range k).map (Cha.wordAt nonce)) ∧ OwnB 5 Z wx u12 nonce ∧
                  Below w.heap.size w wx ∧ w.heap.size + 2 ≤ wx.heap.size) (fun _ i _ _ => 3 - (intOf i).toNat)
              case atStart => exact ⟨0, by omega, rfl, by simpa using hO.out, hok, hwr, hVr0⟩
              case round =>
                clear hok hwr hVr0 hO
                obtain ⟨k, hk, rfl, ho, hb, hbx, hzx⟩ := hrel
                by_cases hlt : k < 3
                · have hcw := fun (w : World) (h : SlB w u12 nonce) => rword_any u12 nonce w h (4 * k) (by rw [HN.out]; omega)
                  rw [show ((4 * k : Nat) : Int) = 4 * (k : Int) from by omega, show Cha.le4 (nonce.getD (4 * k) 0) (nonce.getD (4 * k + 1) 0) (nonce.getD (4 * k + 2) 0) (nonce.getD (4 * k + 3) 0) = Cha.wordAt nonce k from rfl] at hcw
                  have HCW := Lib.hid hcw
                  have HF := Lib.hid (rangeMap_succ (Cha.wordAt nonce) k)
                  have hlen : (pre ++ (List.range k).map (Cha.wordAt nonce)).length ≤ 17 := by simp [HX4.out]; omega
                  have HA := Lib.hid (List.append_assoc pre ((List.range k).map (Cha.wordAt nonce)) [Cha.wordAt nonce k])
                  generalize Cha.wordAt nonce k = x at hcw HCW HF HA
                  clear hcw
                  generalize hpre : pre ++ (List.range k).map (Cha.wordAt nonce) = pk at ho hlen HA
                  go_wp2_with (first
                    | (go_at_call 27
                       refine (HCW.out _ hb.sl).mono ?_
                       rintro e w1 ⟨rfl, hb1⟩
                       have ho1 := ho.below hb1 (Nat.le_refl _)
                       have hB1 := hb.below hb1 (Nat.le_refl _)
                       have hbx1 := hbx.trans (hb1.mono (by omega))
                       have hz1 : w.heap.size + 2 ≤ w1.heap.size := by have := hb1.size; omega
                       clear hb1 ho hb hbx hzx)
                    | (at_builtin; go_loud (
                       refine wpList_append_w rfl (.tmp 61) (.tmp 63) 57 22 rfl Try.underlying57 info_u32 (w.heap.size + 1 + 1) _ _ (ho1.alloc _) rfl _ _ (oneW w1 x _) rfl (by simp; omega) (by simp; omega) ?_
                       intro v' w' ho hg hn'
                       have hb2 := (hbx1.alloc (by omega) (.cells #[.int .u32 (wv x)] 22)).grown hg (by simp; omega) (fun k e => by have := (World.ownsRow.lt ho1 k e).1; omega)
                       have hB2 := (hB1.alloc (.cells #[.int .u32 (wv x)] 22)).grown hg (apart_wb ho1 hB1 (by decide))
                       have hz2 : w.heap.size + 2 ≤ w'.heap.size := by have := hg.size; simp at this; omega
                       clear hg hn' ho1 hB1 hbx1)))
                  go_roundw
                  case rel => exact ⟨k + 1, by omega, by go_num, by rw [HF.out, ← HA.out]; exact ho, hB2, hb2, hz2⟩
                  case measure => simp [intOf]; omega
                · obtain rfl : k = 3 := by omega
                  rw [← HBE.out] at ho
                  go_wp2
                  go_ret
                  exact ⟨_, rfl, ho.mono (by omega), hbx⟩
end Go.Proofs.Ytnoilogepkelaaa
