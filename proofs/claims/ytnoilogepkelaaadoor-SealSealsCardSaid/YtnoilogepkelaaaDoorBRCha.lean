/-
  The document's answer for chacha: Stream.
-/
import Derived.Test.YtnoilogepkelaaaDoorBBase
import Derived.Test.YtnoilogepkelaaaDoorBCha
import Derived.Deep.RegionWith
import Derived.Deep.DeepCutAuto
import Derived.Deep.WholeRow
import Derived.Deep.RegionHeld3
import Derived.Laws.CopyOwn
import Derived.Laws.Tables
import Derived.Deep.AppendLies
import Derived.Tactics2
import Derived.StillTactics
import Derived.OwnWalk
import Derived.Laws.Pointers
namespace Go.Proofs.YtnoilogepkelaaaDoor
set_option linter.unusedVariables false
set_option linter.unusedSimpArgs false
open Go Go.RowKit
attribute [local go_sem] u32_add u32_sub u32_xor u32_or u32_and' u32_shl u32_shr u8_to_u32

theorem rleft_any (x : BitVec 32) (k : Int) (h0 : 0 < k) (h1 : k < 32) (w : World) :
    Calls Tryd.prog 110 #[.int .u32 (wv x), .int .i64 k] w fun e w' => e = .returned (.int .u32 (wv (x.rotateLeft k.toNat))) ∧ w = w' := by
  obtain ⟨k, rfl⟩ : ∃ n : Nat, k = n := ⟨k.toNat, by omega⟩
  have HE := Lib.hid (rot_eq x k (by omega))
  go_enter Tryd.func110, Tryd.ntmps110
  go_wp2
  go_ret
  refine ⟨ret_int ?_, rfl⟩
  rw [Int.toNat_natCast, HE.out]

theorem rquarter_any (q : Cha.Q) (w : World) :
    Calls Tryd.prog 109 #[.int .u32 (wv q.a), .int .u32 (wv q.b), .int .u32 (wv q.c), .int .u32 (wv q.d)] w fun e w' =>
      e = .returned (.tuple #[.int .u32 (wv (Cha.quarter q).a), .int .u32 (wv (Cha.quarter q).b), .int .u32 (wv (Cha.quarter q).c), .int .u32 (wv (Cha.quarter q).d)]) ∧ w = w' := by
  obtain ⟨a, b, c, d⟩ := q
  go_enter Tryd.func109, Tryd.ntmps109
  go_wp2_with (go_at_call 110; refine (rleft_any _ _ (by omega) (by omega) _).mono ?_; rintro e w' ⟨rfl, rfl⟩)
  refine bodyPost_ret (v := .tuple #[.int .u32 (wv (Cha.quarter ⟨a, b, c, d⟩).a), .int .u32 (wv (Cha.quarter ⟨a, b, c, d⟩).b), .int .u32 (wv (Cha.quarter ⟨a, b, c, d⟩).c), .int .u32 (wv (Cha.quarter ⟨a, b, c, d⟩).d)]) (by simp [results, Tryd.results109, go_sem, Cha.quarter, Cha.half]) rfl ⟨rfl, rfl⟩

theorem le4_eq (a b c d : BitVec 8) : Cha.le4 a b c d = 256 * (256 * (256 * (256 * 0 + d.setWidth 32) + c.setWidth 32) + b.setWidth 32) + a.setWidth 32 := by
  have ha := a.isLt
  have hb := b.isLt
  have hc := c.isLt
  have hd := d.isLt
  apply BitVec.eq_of_toNat_eq
  have n256 : BitVec.toNat (256 : BitVec 32) = 256 := rfl
  have n0 : BitVec.toNat (0 : BitVec 32) = 0 := rfl
  simp only [Cha.le4, n256, n0, BitVec.toNat_or, BitVec.toNat_shiftLeft, BitVec.toNat_setWidth, BitVec.toNat_add, BitVec.toNat_mul, BitVec.toNat_ofNat]
  have sh : ∀ x y i : Nat, x < 2 ^ i → x ||| (y <<< i) = y * 2 ^ i + x := fun x y i h => by
    rw [Nat.or_comm, ← Nat.shiftLeft_add_eq_or_of_lt h, Nat.shiftLeft_eq]
  have sm : ∀ y i : Nat, y < 256 → i ≤ 24 → (y % 2 ^ 32) <<< i % 2 ^ 32 = y <<< i := fun y i h hi => by
    rw [Nat.mod_eq_of_lt (a := y) (by omega)]
    refine Nat.mod_eq_of_lt ?_
    rw [Nat.shiftLeft_eq]
    have : 2 ^ i ≤ 2 ^ 24 := Nat.pow_le_pow_right (by omega) hi
    have : y * 2 ^ i ≤ 255 * 2 ^ 24 := Nat.mul_le_mul (by omega) this
    omega
  rw [sm _ _ hb (by omega), sm _ _ hc (by omega), sm _ _ hd (by omega), Nat.mod_eq_of_lt (a := a.toNat) (by omega), sh _ _ _ ha, sh _ _ 16 (by omega), sh _ _ 24 (by omega)]
  omega

theorem u32_mul256 (x : BitVec 32) : IntKind.u32.wrap (256 * wv x) = wv (256 * x) := u32_mul 256 x
theorem wv_zero : (0 : Int) = wv 0 := rfl

theorem rword_any (v : Value) (xs : List (BitVec 8)) (w : World) (h : SlB w v xs) (k : Nat) (hl : k + 4 ≤ xs.length) :
    Calls Tryd.prog 108 #[v, .int .i64 k] w fun e w' => e = .returned (.int .u32 (wv (Cha.le4 (xs.getD k 0) (xs.getD (k + 1) 0) (xs.getD (k + 2) 0) (xs.getD (k + 3) 0)))) ∧ Below w.heap.size w w' := by
  rcases h with ⟨_, rfl⟩ | ⟨b, off, cap, rfl, h1, h2, h3, h4⟩
  · simp at hl
  · have hm : maxLen = 9223372036854775807 := by decide
    have c0 := h4 k (by omega)
    have c1 := h4 (k + 1) (by omega)
    have c2 := h4 (k + 2) (by omega)
    have c3 := h4 (k + 3) (by omega)
    unfold byteV at c0 c1 c2 c3
    clear h4
    have HL := Lib.hid (le4_eq (xs.getD k 0) (xs.getD (k + 1) 0) (xs.getD (k + 2) 0) (xs.getD (k + 3) 0))
    generalize xs.getD k 0 = x0 at c0 HL ⊢
    generalize xs.getD (k + 1) 0 = x1 at c1 HL ⊢
    generalize xs.getD (k + 2) 0 = x2 at c2 HL ⊢
    generalize xs.getD (k + 3) 0 = x3 at c3 HL ⊢
    go_enter Tryd.func108, Tryd.ntmps108
    go_wp2
    refine wp_loop_rounds 5 ?_
    iterate 5
      rw [rounds_succ]
      go_wp2
    go_ret
    refine ⟨ret_int ?_, Below.refl _ _⟩
    rw [HL.out]
    simp only [← u32_add, ← u32_mul256, wrap_u32_mod]
    have hz : wv 0 = 0 := rfl
    omega
end Go.Proofs.YtnoilogepkelaaaDoor
namespace Go.Proofs.YtnoilogepkelaaaDoor
set_option linter.unusedVariables false
set_option linter.unusedSimpArgs false
open Go Go.RowKit

theorem info_cu32 : (Tryd.prog.info? 25).map (fun i => (i.zero, i.size, i.bytes)) = some (some (.int .u32 0), 1, 4) := by kernel_rfl
theorem rangeMap_succ {α : Type} (f : Nat → α) (k : Nat) : (List.range (k + 1)).map f = (List.range k).map f ++ [f k] := by simp [List.range_succ]
theorem take_one {α : Type} (xs : List α) (k : Nat) (h : k < xs.length) (d : α) : xs.take (k + 1) = xs.take k ++ [xs.getD k d] := by
  rw [List.take_succ_eq_append_getElem h]
  simp [h]
theorem oneB (w : World) (x : BitVec 8) (t : TypeId) : SlB (w.alloc (.cells #[.int .u8 (bv x)] t)) (.slice (some ⟨w.heap.size, 0, none⟩) 1 1) [x] :=
  SlB.block (xs := [x]) (heap_alloc_new w _) 0 1 (Nat.le_refl _) (by decide) (fun j hj => match j, hj with | 0, _ => rfl)
theorem oneW (w : World) (x : BitVec 32) (t : TypeId) : SlW (w.alloc (.cells #[.int .u32 (wv x)] t)) (.slice (some ⟨w.heap.size, 0, none⟩) 1 1) [x] :=
  SlW.block (xs := [x]) (heap_alloc_new w _) 0 1 (Nat.le_refl _) (by decide) (fun j hj => match j, hj with | 0, _ => rfl)

set_option maxHeartbeats 1000000 in
theorem rfirst_any (key nonce : List (BitVec 8)) (c : BitVec 32) (w : World) (hk : key.length = 32) (hn : nonce.length = 12) :
    Calls Tryd.prog 104 #[.agg (bytes key), .int .u32 (wv c), .agg (bytes nonce)] w fun e w' => ∃ v', e = .returned v' ∧ OwnW 25 w.heap.size w' v' (Cha.begin key c nonce) ∧ Below w.heap.size w w' := by
  have HK := Lib.hid hk
  have HN := Lib.hid hn
  have HBE := Lib.hid (Cha.begin_eq key c nonce hk hn)
  generalize Cha.begin key c nonce = beg at HBE
  obtain ⟨kb, hkb⟩ : ∃ kb, bytes key = kb := ⟨_, rfl⟩
  obtain ⟨nb, hnb⟩ : ∃ nb, bytes nonce = nb := ⟨_, rfl⟩
  rw [hkb, hnb]
  have HKB := Lib.hid hkb
  have HNB := Lib.hid hnb
  clear hk hn hkb hnb
  go_enter Tryd.func104, Tryd.ntmps104
  go_upto_region 2 with fail
  obtain ⟨W, hW, hBW, hWs, hWk, hWn⟩ := alloc2 w (Obj.cells kb 32) (Obj.cells nb 118)
  rw [hW]
  rw [← HKB.out] at hWk
  rw [← HNB.out] at hWn
  have HWk := Lib.hid hWk
  have HWn := Lib.hid hWn
  have hbase : W.heap.size = w.heap.size + 2 := hWs
  obtain ⟨V, hV, hBV, hVs, hVk⟩ := alloc1 W (Obj.cells (words [0x61707865, 0x3320646e, 0x79622d32, 0x6b206574]) 25)
  have hown := OwnW.made (E := 25) (base := W.heap.size) W [0x61707865, 0x3320646e, 0x79622d32, 0x6b206574] (Nat.le_refl _) (by decide)
  rw [hV, show W.heap.size = w.heap.size + 1 + 1 from hbase] at hown
  rw [show W.alloc (Obj.cells #[.int .u32 1634760805, .int .u32 857760878, .int .u32 2036477234, .int .u32 1797285236] 25) = V from hV]
  have hVk0 := Lib.hid ((hBV.block (w.heap.size) (by omega)).trans HWk.out)
  have hVn0 := Lib.hid ((hBV.block (w.heap.size + 1) (by omega)).trans HWn.out)
  have hwV := hBW.trans (hBV.mono (by omega))
  have HOWN := Lib.hid hown
  have hVs' : V.heap.size = w.heap.size + 3 := by omega
  clear hown hVk hWk hWn hW hWs HKB HNB hBV hBW hV HWk HWn hVs hbase
  go_wp2
  go_loopw [8, 9] (fun s i wr => ∃ k : Nat, k ≤ 32 ∧ i = .int .i64 k ∧ OwnB 5 V.heap.size wr s (key.take k) ∧ Below V.heap.size V wr) (fun _ i _ => 32 - (intOf i).toNat)
  case atStart => exact ⟨0, by omega, rfl, OwnB.nil _ _ _, Below.refl _ _⟩
  case round =>
    obtain ⟨k, hk, rfl, hok, hbk⟩ := hrel
    by_cases hlt : k < 32
    · have hc := (cell_of_row wr (w.heap.size) k _ _ _ ((hbk.block (w.heap.size) (by omega)).trans hVk0.out)).trans (bytes_get? key k (by rw [HK.out]; exact hlt))
      have HF := Lib.hid (take_one key k (by rw [HK.out]; exact hlt) 0)
      generalize key.getD k 0 = x at hc HF
      have hlen : (key.take k).length ≤ 32 := by simp; omega
      have hsz := hbk.size
      go_wp2_with (at_builtin; refine wpList_append_b rfl (.tmp 21) (.tmp 25) 22 5 rfl Tryd.underlying22 info_u8 V.heap.size _ _ (hok.alloc _) rfl _ _ (oneB wr x _) rfl (by simp; omega) (by simp; omega) ?_; intro v' w' ho hg hn'; have hb2 := (hbk.alloc hsz _).grown hg (by simp; omega) (fun k e => (World.ownsRow.lt hok k e).1); clear hg hn' hok hbk)
      go_roundw
      case rel => exact ⟨k + 1, by omega, by go_num, by rw [HF.out]; exact ho, hb2⟩
      case measure => simp [intOf]; omega
    · rw [show (k : Int) = 32 from by omega]
      obtain rfl : k = 32 := by omega
      rw [List.take_of_length_le (by rw [HK.out]; exact Nat.le_refl _)] at hok
      have hO := Lib.hid (HOWN.out.below hbk (Nat.le_refl _))
      have hN := (hbk.block (w.heap.size + 1) (by omega)).trans hVn0.out
      have hwr := hwV.trans (hbk.mono (by omega))
      clear hVk0 hVn0 HOWN hwV
      have hVr : V.heap.size ≤ wr.heap.size := hbk.size
      have hokB := hok
      have hVr0 : w.heap.size + 2 ≤ wr.heap.size := by omega
      generalize V.heap.size = VB at hok hokB
      clear hbk hok hVr
      generalize V = V' at *
      clear hVs'
      have HN0 := Lib.hid hN
      clear hN
      go_wp2
      go_loopw [7, 10, 11] (fun s i _ wx => ∃ k : Nat, k ≤ 8 ∧ i = .int .i64 k ∧ OwnW 25 (w.heap.size + 1 + 1) wx s ([1634760805, 857760878, 2036477234, 1797285236] ++ (List.range k).map (Cha.wordAt key)) ∧ OwnB 5 VB wx u8 key ∧ Below wr.heap.size wr wr ∧
          Hid (wx.heap[w.heap.size + 1]? = some (.cells (bytes nonce) 118 (0, 0))) ∧ Below w.heap.size w wx ∧ w.heap.size + 2 ≤ wx.heap.size) (fun _ i _ _ => 8 - (intOf i).toNat)
      case atStart => exact ⟨0, by omega, rfl, by simpa using hO.out, hokB, Below.refl _ _, HN0, hwr, hVr0⟩
      case round =>
        clear hokB hwr hVr0 HN0 hO
        obtain ⟨k, hk, rfl, ho, hb, -, HNx, hbx, hzx⟩ := hrel
        by_cases hlt : k < 8
        · have hcw := fun (w : World) (h : SlB w u8 key) => rword_any u8 key w h (4 * k) (by rw [HK.out]; omega)
          rw [show ((4 * k : Nat) : Int) = 4 * (k : Int) from by omega, show Cha.le4 (key.getD (4 * k) 0) (key.getD (4 * k + 1) 0) (key.getD (4 * k + 2) 0) (key.getD (4 * k + 3) 0) = Cha.wordAt key k from rfl] at hcw
          have HCW := Lib.hid hcw
          have HF := Lib.hid (rangeMap_succ (Cha.wordAt key) k)
          have hlen : ([1634760805, 857760878, 2036477234, 1797285236] ++ (List.range k).map (Cha.wordAt key)).length ≤ 12 := by simp; omega
          have HA := Lib.hid (List.append_assoc [1634760805, 857760878, 2036477234, 1797285236] ((List.range k).map (Cha.wordAt key)) [Cha.wordAt key k])
          generalize Cha.wordAt key k = x at hcw HCW HF HA
          clear hcw
          go_wp2_with (first
            | (go_at_call 108
               refine (HCW.out _ hb.sl).mono ?_
               rintro e w1 ⟨rfl, hb1⟩
               have ho1 := ho.below hb1 (Nat.le_refl _)
               have hB1 := hb.below hb1 (Nat.le_refl _)
               have hbx1 := hbx.trans (hb1.mono (by omega))
               have HN1 := Lib.hid ((hb1.block (w.heap.size + 1) (by omega)).trans HNx.out)
               have hz1 : w.heap.size + 2 ≤ w1.heap.size := by have := hb1.size; omega
               clear hb1 ho hb hbx HNx hzx)
            | (at_builtin; go_loud (
               refine wpList_append_w rfl (.tmp 35) (.tmp 37) 94 25 rfl Tryd.underlying94 info_cu32 (w.heap.size + 1 + 1) _ _ (ho1.alloc _) rfl _ _ (oneW w1 x _) rfl (by simp; omega) (by simp; omega) ?_
               intro v' w' ho hg hn'
               have hb2 := (hbx1.alloc (by omega) (.cells #[.int .u32 (wv x)] 25)).grown hg (by simp; omega) (fun k e => by have := (World.ownsRow.lt ho1 k e).1; omega)
               have hB2 := (hB1.alloc (.cells #[.int .u32 (wv x)] 25)).grown hg (apart_wb ho1 hB1 (by decide))
               have HN2 := Lib.hid ((hg.block (w.heap.size + 1) (by simp; omega) (by intro e; have := (World.ownsRow.lt ho1 _ e.symm).1; omega)).trans ((heapA_old w1 _ _ (by omega)).trans HN1.out))
               have hz2 : w.heap.size + 2 ≤ w'.heap.size := by have := hg.size; simp at this; omega
               clear hg hn' ho1 hB1 HN1 hbx1)))
          go_roundw
          case rel => exact ⟨k + 1, by omega, by go_num, by rw [HF.out, ← HA.out]; exact ho, hB2, Below.refl _ _, HN2, hb2, hz2⟩
          case measure => simp [intOf]; omega
        · rw [show (k : Int) = 8 from by omega]
          obtain rfl : k = 8 := by omega
          clear hb hk hlt
          have hO := Lib.hid ho
          clear ho
          go_wp2_with (at_builtin; refine wpList_append_w rfl (.tmp 39) (.tmp 41) 94 25 rfl Tryd.underlying94 info_cu32 (w.heap.size + 1 + 1) _ _ (hO.out.alloc _) rfl _ _ (oneW wr c _) rfl (by simp) (by simp; omega) ?_; intro v' w' ho hg hn'; have hb2 := (hbx.alloc (by omega) (.cells #[.int .u32 (wv c)] 25)).grown hg (by simp; omega) (fun k e => by have := (World.ownsRow.lt hO.out k e).1; omega); have HN2 := Lib.hid ((hg.block (w.heap.size + 1) (by simp; omega) (by intro e; have := (World.ownsRow.lt hO.out _ e.symm).1; omega)).trans ((heapA_old wr _ _ (by omega)).trans HNx.out)); have hz2 : w.heap.size + 2 ≤ w'.heap.size := (by have := hg.size; simp at this; omega); clear hg hn' hbx HNx hzx hO)
          have HO4 := Lib.hid ho
          have HX4 : Hid (([1634760805, 857760878, 2036477234, 1797285236] ++ List.map (Cha.wordAt key) (List.range 8) ++ [c]).length = 13) := Lib.hid (by simp)
          generalize [1634760805, 857760878, 2036477234, 1797285236] ++ List.map (Cha.wordAt key) (List.range 8) ++ [c] = pre at HO4 HX4 HBE
          clear ho
          generalize hwz : w'.heap.size = Z at hz2
          go_loopw [12, 13] (fun s i wx => ∃ k : Nat, k ≤ 12 ∧ i = .int .i64 k ∧ OwnB 5 Z wx s (nonce.take k) ∧ Below Z w' wx) (fun _ i _ => 12 - (intOf i).toNat)
          case atStart => exact ⟨0, by omega, rfl, OwnB.nil _ _ _, Below.refl _ _⟩
          case round =>
            obtain ⟨k, hk, rfl, hok, hbk⟩ := hrel
            by_cases hlt : k < 12
            · have hc := (cell_of_row wr (w.heap.size + 1) k _ _ _ ((hbk.block (w.heap.size + 1) (by omega)).trans HN2.out)).trans (bytes_get? nonce k (by rw [HN.out]; exact hlt))
              have HF := Lib.hid (take_one nonce k (by rw [HN.out]; exact hlt) 0)
              generalize nonce.getD k 0 = x at hc HF
              have hlen : (nonce.take k).length ≤ 12 := by simp; omega
              have hsz := hbk.size
              go_wp2_with (at_builtin; refine wpList_append_b rfl (.tmp 47) (.tmp 51) 22 5 rfl Tryd.underlying22 info_u8 Z _ _ (hok.alloc _) rfl _ _ (oneB wr x _) rfl (by simp; omega) (by simp; omega) ?_; intro v' w' ho hg hn'; have hb2 := (hbk.alloc (by omega) _).grown hg (by simp; omega) (fun k e => (World.ownsRow.lt hok k e).1); clear hg hn' hok hbk)
              go_roundw
              case rel => exact ⟨k + 1, by omega, by go_num, by rw [HF.out]; exact ho, hb2⟩
              case measure => simp [intOf]; omega
            · rw [show (k : Int) = 12 from by omega]
              obtain rfl : k = 12 := by omega
              rw [List.take_of_length_le (by rw [HN.out]; exact Nat.le_refl _)] at hok
              have hO := Lib.hid (HO4.out.below hbk (by omega))
              have hwr := hb2.trans (hbk.mono (by omega))
              have hVr0 : w.heap.size + 2 ≤ wr.heap.size := by have := hbk.size; omega
              clear HN2 HO4 hb2 hbk hz2 hwz
              go_wp2
              go_loopw [7, 14, 15] (fun s i _ wx => ∃ k : Nat, k ≤ 3 ∧ i = .int .i64 k ∧ OwnW 25 (w.heap.size + 1 + 1) wx s (pre ++ (List.range k).map (Cha.wordAt nonce)) ∧ OwnB 5 Z wx u12 nonce ∧
                  Below w.heap.size w wx ∧ w.heap.size + 2 ≤ wx.heap.size) (fun _ i _ _ => 3 - (intOf i).toNat)
              case atStart => exact ⟨0, by omega, rfl, by simpa using hO.out, hok, hwr, hVr0⟩
              case round =>
                clear hok hwr hVr0 hO
                obtain ⟨k, hk, rfl, ho, hb, hbx, hzx⟩ := hrel
                by_cases hlt : k < 3
                · have hcw := fun (w : World) (h : SlB w u12 nonce) => rword_any u12 nonce w h (4 * k) (by rw [HN.out]; omega)
                  rw [show ((4 * k : Nat) : Int) = 4 * (k : Int) from by omega, show Cha.le4 (nonce.getD (4 * k) 0) (nonce.getD (4 * k + 1) 0) (nonce.getD (4 * k + 2) 0) (nonce.getD (4 * k + 3) 0) = Cha.wordAt nonce k from rfl] at hcw
                  have HCW := Lib.hid hcw
                  have HF := Lib.hid (rangeMap_succ (Cha.wordAt nonce) k)
                  have hlen : (pre ++ (List.range k).map (Cha.wordAt nonce)).length ≤ 17 := by simp [HX4.out]; omega
                  have HA := Lib.hid (List.append_assoc pre ((List.range k).map (Cha.wordAt nonce)) [Cha.wordAt nonce k])
                  generalize Cha.wordAt nonce k = x at hcw HCW HF HA
                  clear hcw
                  generalize hpre : pre ++ (List.range k).map (Cha.wordAt nonce) = pk at ho hlen HA
                  go_wp2_with (first
                    | (go_at_call 108
                       refine (HCW.out _ hb.sl).mono ?_
                       rintro e w1 ⟨rfl, hb1⟩
                       have ho1 := ho.below hb1 (Nat.le_refl _)
                       have hB1 := hb.below hb1 (Nat.le_refl _)
                       have hbx1 := hbx.trans (hb1.mono (by omega))
                       have hz1 : w.heap.size + 2 ≤ w1.heap.size := by have := hb1.size; omega
                       clear hb1 ho hb hbx hzx)
                    | (at_builtin; go_loud (
                       refine wpList_append_w rfl (.tmp 61) (.tmp 63) 94 25 rfl Tryd.underlying94 info_cu32 (w.heap.size + 1 + 1) _ _ (ho1.alloc _) rfl _ _ (oneW w1 x _) rfl (by simp; omega) (by simp; omega) ?_
                       intro v' w' ho hg hn'
                       have hb2 := (hbx1.alloc (by omega) (.cells #[.int .u32 (wv x)] 25)).grown hg (by simp; omega) (fun k e => by have := (World.ownsRow.lt ho1 k e).1; omega)
                       have hB2 := (hB1.alloc (.cells #[.int .u32 (wv x)] 25)).grown hg (apart_wb ho1 hB1 (by decide))
                       have hz2 : w.heap.size + 2 ≤ w'.heap.size := by have := hg.size; simp at this; omega
                       clear hg hn' ho1 hB1 hbx1)))
                  go_roundw
                  case rel => exact ⟨k + 1, by omega, by go_num, by rw [HF.out, ← HA.out]; exact ho, hB2, hb2, hz2⟩
                  case measure => simp [intOf]; omega
                · obtain rfl : k = 3 := by omega
                  rw [← HBE.out] at ho
                  go_wp2
                  go_ret
                  exact ⟨_, rfl, ho.mono (by omega), hbx⟩
end Go.Proofs.YtnoilogepkelaaaDoor
namespace Go.Proofs.YtnoilogepkelaaaDoor
set_option linter.unusedVariables false
set_option linter.unusedSimpArgs false
open Go Go.RowKit

set_option maxHeartbeats 1000000 in
theorem rround_any (v : Value) (xs : List (BitVec 32)) (w : World) (h : SlW w v xs) (hl : xs.length = 16) (p q r s : Nat) (hp : p < 4) (hq0 : 4 ≤ q) (hq : q < 8) (hr0 : 8 ≤ r) (hr : r < 12) (hs0 : 12 ≤ s) (hs : s < 16) :
    Calls Tryd.prog 105 #[v, .int .i64 p, .int .i64 q, .int .i64 r, .int .i64 s] w fun e w' => ∃ v', e = .returned v' ∧ OwnW 25 w.heap.size w' v' (Cha.qstep xs p q r s) ∧ Below w.heap.size w w' := by
  have HL := Lib.hid hl
  have HSL := Lib.hid h
  rcases h with ⟨_, rfl⟩ | ⟨b, off, cap, rfl, h1, h2, h3, h4⟩
  · simp at hl
  · rw [hl] at HSL ⊢
    have c0 := h4 p (by omega)
    have c1 := h4 q (by omega)
    have c2 := h4 r (by omega)
    have c3 := h4 s (by omega)
    have HCAP := Lib.hid (show 16 ≤ cap by omega)
    unfold wordV at c0 c1 c2 c3
    clear h4 h1 h2 hl
    have HQ := Lib.hid (show Cha.qstep xs p q r s = (((xs.set p (Cha.quarter ⟨xs.getD p 0, xs.getD q 0, xs.getD r 0, xs.getD s 0⟩).a).set q (Cha.quarter ⟨xs.getD p 0, xs.getD q 0, xs.getD r 0, xs.getD s 0⟩).b).set r (Cha.quarter ⟨xs.getD p 0, xs.getD q 0, xs.getD r 0, xs.getD s 0⟩).c).set s (Cha.quarter ⟨xs.getD p 0, xs.getD q 0, xs.getD r 0, xs.getD s 0⟩).d from rfl)
    generalize Cha.qstep xs p q r s = ys at HQ
    have HC := Lib.hid (rquarter_any ⟨xs.getD p 0, xs.getD q 0, xs.getD r 0, xs.getD s 0⟩)
    generalize xs.getD p 0 = x0 at c0 HQ HC
    generalize xs.getD q 0 = x1 at c1 HQ HC
    generalize xs.getD r 0 = x2 at c2 HQ HC
    generalize xs.getD s 0 = x3 at c3 HQ HC
    generalize Cha.quarter ⟨x0, x1, x2, x3⟩ = Q at HQ HC
    go_enter Tryd.func105, Tryd.ntmps105
    go_wp2_with (at_builtin; refine wpList_append_w rfl (.tmp 12) (.tmp 13) 94 25 rfl Tryd.underlying94 info_cu32 w.heap.size _ _ (OwnW.nil _ _ _) rfl _ _ HSL.out rfl (by simp [HL.out]) (Nat.le_refl _) ?_; intro v' w1 ho hg hn'; obtain ⟨g, cap', rfl, hgb, hgl, hcap', hsl'⟩ := ho.form 16 (by simp [HL.out]) (by omega); have hb1 := (Below.refl w.heap.size w).grown hg (Nat.le_refl _) (fun k e => by simp [Value.ownBlock] at e))
    clear hn' hg
    rw [List.nil_append] at ho
    have HO := Lib.hid ho
    have o0 := ho.get_cell p (by rw [HL.out]; omega)
    have o1 := ho.get_cell q (by rw [HL.out]; omega)
    have o2 := ho.get_cell r (by rw [HL.out]; omega)
    have o3 := ho.get_cell s (by rw [HL.out]; omega)
    have f0 := ho.not_frozen p
    have f1 := ho.not_frozen q
    have f2 := ho.not_frozen r
    have f3 := ho.not_frozen s
    unfold wordV at o0 o1 o2 o3
    generalize xs.getD p 0 = y0 at o0
    generalize xs.getD q 0 = y1 at o1
    generalize xs.getD r 0 = y2 at o2
    generalize xs.getD s 0 = y3 at o3
    rw [← hb1.cell (p := ⟨b, off + p, none⟩) h3] at c0
    rw [← hb1.cell (p := ⟨b, off + q, none⟩) h3] at c1
    rw [← hb1.cell (p := ⟨b, off + r, none⟩) h3] at c2
    rw [← hb1.cell (p := ⟨b, off + s, none⟩) h3] at c3
    clear ho hsl'
    have n01 : ¬ p = q := by omega
    have n02 : ¬ p = r := by omega
    have n03 : ¬ p = s := by omega
    have n12 : ¬ q = r := by omega
    have n13 : ¬ q = s := by omega
    have n23 : ¬ r = s := by omega
    have i0 : (p : Int) < 16 := by omega
    have i1 : (q : Int) < 16 := by omega
    have i2 : (r : Int) < 16 := by omega
    have i3 : (s : Int) < 16 := by omega
    have hbg : ¬ b = g := by omega
    have hgb' : ¬ g = b := by omega
    go_cut [] (fun wx => OwnW 25 w.heap.size wx (.slice (some ⟨g, 0, none⟩) 16 cap') ys ∧ Below w.heap.size w wx)
    case first =>
      go_region_held3 (fun w' => w'.cell? ⟨b, off + p, none⟩ = some (.int .u32 (wv x0)) ∧ w'.cell? ⟨b, off + q, none⟩ = some (.int .u32 (wv x1)) ∧ w'.cell? ⟨b, off + r, none⟩ = some (.int .u32 (wv x2)) ∧ w'.cell? ⟨b, off + s, none⟩ = some (.int .u32 (wv x3)))
        (go_keep)
        (first | (go_at_call 109; refine (HC.out _).mono ?_; rintro e w2 ⟨rfl, rfl⟩))
      go_wp2_with fail
      go_meet
      rw [HQ.out]
      refine ⟨?_, ?_⟩
      · exact (((HO.out.set_cell p (by rw [HL.out]; omega) Q.a).set_cell q (by simp [HL.out]; omega) Q.b).set_cell r (by simp [HL.out]; omega) Q.c).set_cell s (by simp [HL.out]; omega) Q.d
      · repeat (first | with_reducible exact hb1 | with_reducible refine Below.drew ?_ | with_reducible refine Below.setCell ?_ hgb _)
    case rest =>
      obtain ⟨ho, hb⟩ := hcut
      go_wp2
      go_ret
      exact ⟨_, rfl, ho, hb⟩
end Go.Proofs.YtnoilogepkelaaaDoor
namespace Go.Proofs.YtnoilogepkelaaaDoor
set_option linter.unusedVariables false
set_option linter.unusedSimpArgs false
open Go Go.RowKit
attribute [local go_sem] u32_add

theorem double_eq (xs : List (BitVec 32)) : Cha.double xs = Cha.qstep (Cha.qstep (Cha.qstep (Cha.qstep (Cha.qstep (Cha.qstep (Cha.qstep (Cha.qstep xs 0 4 8 12) 1 5 9 13) 2 6 10 14) 3 7 11 15) 0 5 10 15) 1 6 11 12) 2 7 8 13) 3 4 9 14 := rfl

theorem rround_at (p q r s : Int) (v : Value) (xs : List (BitVec 32)) (w : World) (h : SlW w v xs) (hl : xs.length = 16) (hp0 : 0 ≤ p) (hp : p < 4) (hq0 : 4 ≤ q) (hq : q < 8) (hr0 : 8 ≤ r) (hr : r < 12) (hs0 : 12 ≤ s) (hs : s < 16) :
    Calls Tryd.prog 105 #[v, .int .i64 p, .int .i64 q, .int .i64 r, .int .i64 s] w fun e w' => ∃ v', e = .returned v' ∧ SlW w' v' (Cha.qstep xs p.toNat q.toNat r.toNat s.toNat) ∧ Below w.heap.size w w' := by
  obtain ⟨P, rfl⟩ := Int.eq_ofNat_of_zero_le hp0
  obtain ⟨Q, rfl⟩ := Int.eq_ofNat_of_zero_le (show 0 ≤ q by omega)
  obtain ⟨R, rfl⟩ := Int.eq_ofNat_of_zero_le (show 0 ≤ r by omega)
  obtain ⟨S, rfl⟩ := Int.eq_ofNat_of_zero_le (show 0 ≤ s by omega)
  refine (rround_any v xs w h hl P Q R S (by omega) (by omega) (by omega) (by omega) (by omega) (by omega) (by omega)).mono ?_
  rintro e w' ⟨v', rfl, ho, hb⟩
  exact ⟨v', rfl, ho.sl, hb⟩

set_option maxRecDepth 100000 in
set_option maxHeartbeats 1000000 in
theorem rcblock_any (key nonce : List (BitVec 8)) (c : BitVec 32) (w : World) (hk : key.length = 32) (hn : nonce.length = 12) :
    Calls Tryd.prog 101 #[.agg (bytes key), .int .u32 (wv c), .agg (bytes nonce)] w fun e w' => e = .returned (.agg (bytes (Cha.block key c nonce))) ∧ Below w.heap.size w w' := by
  have HCALL := Lib.hid (fun w => rfirst_any key nonce c w hk hn)
  have HIK := Lib.hid (show (Tryd.prog.info? 32).map (·.size) = some (bytes key).size by rw [bytes_size, hk]; kernel_rfl)
  have HIN := Lib.hid (show (Tryd.prog.info? 118).map (·.size) = some (bytes nonce).size by rw [bytes_size, hn]; kernel_rfl)
  have HL0 := Lib.hid (Cha.begin_length key c nonce)
  have HBL := Lib.hid (show Cha.block key c nonce = (List.range 64).map (Cha.outByte (Cha.rounds (Cha.begin key c nonce) 10) (Cha.begin key c nonce)) from rfl)
  generalize Cha.block key c nonce = blk at HBL ⊢
  generalize Cha.begin key c nonce = s0 at HCALL HL0 HBL
  generalize bytes key = kb at HCALL HIK ⊢
  generalize bytes nonce = nb at HCALL HIN ⊢
  clear hk hn
  go_enter Tryd.func101, Tryd.ntmps101
  go_upto_region 1 with fail
  obtain ⟨W, hW, hBW, hWs, hWk, hWn, hWo⟩ := alloc3 w (Obj.cells kb 32) (Obj.cells nb 118) (Obj.cells (bytes (List.replicate 64 0)) 29)
  have hW' := hW
  simp only [bytes, List.replicate, List.map] at hW'
  rw [show (Value.int .u8 (bv 0)) = .int .u8 0 from rfl] at hW'
  rw [hW']
  have HWk := Lib.hid hWk
  have HWn := Lib.hid hWn
  have HWo := Lib.hid hWo
  have hz1 : w.heap.size + 2 < W.heap.size := by omega
  clear hWk hWn hWs hWo hW hW'
  go_wp2_with (first
    | (refine wpList_load_row rfl 32 (.tmp 3) rfl (w.heap.size) rfl _ _ _ _ HWk.out Tryd.underlying32 rfl HIK.out ?_)
    | (refine wpList_load_row rfl 118 (.tmp 5) rfl (w.heap.size + 1) rfl _ _ _ _ HWn.out Tryd.underlying118 rfl HIN.out ?_)
    | (go_at_call 104; refine (HCALL.out _).mono ?_; rintro e w1 ⟨v1, rfl, ho1, hb1⟩))
  have hs1 := ho1.sl
  obtain ⟨a1, cap1, ev1⟩ := hs1.len
  have hOX := Lib.hid ((hb1.block (w.heap.size + 2) hz1).trans HWo.out)
  have hwX := hBW.trans (hb1.mono (by omega))
  have hz2 : w.heap.size + 3 ≤ w1.heap.size := by have := hb1.size; omega
  clear hb1 hBW HWo HWk HWn hz1 ho1 ev1
  go_loopw [8, 9] (fun s i wr => ∃ k : Nat, k ≤ 10 ∧ i = .int .i64 k ∧ SlW wr s (Cha.rounds s0 k) ∧ SlW wr v1 s0 ∧ Hid (wr.heap[w.heap.size + 2]? = some (.cells (bytes (List.replicate 64 0)) 29 (0, 0))) ∧
      Below w.heap.size w wr ∧ w.heap.size + 3 ≤ wr.heap.size) (fun _ i _ => 10 - (intOf i).toNat)
  case atStart => exact ⟨0, by omega, rfl, hs1, hs1, hOX, hwX, hz2⟩
  case round =>
    clear hs1 hOX hwX hz2
    obtain ⟨k, hk, rfl, g0, h1, HZ, hbk, hzk⟩ := hrel
    by_cases hlt : k < 10
    · have HLX := Lib.hid ((Cha.rounds_length s0 k).trans HL0.out)
      have b0 := Below.refl wr.heap.size wr
      generalize hxs : Cha.rounds s0 k = xs at g0 HLX
      have HXS := Lib.hid hxs
      clear hxs
      go_wp2_with (first
        | (go_at_call 105
           refine Calls.mono (rround_at _ _ _ _ _ _ _ g0 (by first | (simp only [Cha.qstep_length]; exact HLX.out) | exact HLX.out) (by omega) (by omega) (by omega) (by omega) (by omega) (by omega) (by omega) (by omega)) ?_
           rintro e w2 ⟨v2, rfl, g', b'⟩
           replace b0 := b0.trans (b'.mono b0.size)
           clear b' g0
           have g0 := g'
           clear g'))
      have hbl := b0
      go_roundw
      case rel =>
        refine ⟨k + 1, by omega, by go_num, ?_, h1.below hbl (Nat.le_refl _), (hbl.block (w.heap.size + 2) (by omega)).trans HZ.out, hbk.trans (hbl.mono (by omega)), by have := hbl.size; omega⟩
        show SlW _ _ (Cha.double (Cha.rounds s0 k))
        rw [HXS.out, double_eq]
        exact g0
      case measure => simp [intOf]; omega
    · rw [show (k : Int) = 10 from by omega]
      obtain rfl : k = 10 := by omega
      have HLs := Lib.hid ((Cha.rounds_length s0 10).trans HL0.out)
      generalize Cha.rounds s0 10 = s at g0 HBL HLs
      obtain ⟨bs, os, cs, rfl, hcs, hbs⟩ := g0.open_ 16 HLs.out (by decide)
      obtain ⟨bf, of, cf, rfl, hcf, hbf⟩ := h1.open_ 16 HL0.out (by decide)
      go_upto_region 15 with fail
      obtain ⟨X, hX, hBX, hXs, hXD⟩ := alloc1 wr (Obj.cells (bytes (List.replicate 64 0)) 29)
      have hX' := hX
      simp only [bytes, List.replicate, List.map] at hX'
      rw [show (Value.int .u8 (bv 0)) = .int .u8 0 from rfl] at hX'
      rw [hX']
      have HZ' := Lib.hid ((hBX.block (w.heap.size + 2) (by omega)).trans HZ.out)
      have HD := Lib.hid hXD
      have gs := g0.below hBX (Nat.le_refl _)
      have gf := h1.below hBX (Nat.le_refl _)
      have hwX := hbk.trans (hBX.mono (by omega))
      have hzX : wr.heap.size < X.heap.size := by omega
      have hwD : w.heap.size + 3 ≤ wr.heap.size := hzk
      clear hX hX' hBX hXs hXD g0 h1 HZ hbk hzk
      generalize wr.heap.size = D at *
      go_wp2
      go_loopw [11, 12, 13] (fun i _ _ wr => ∃ k : Nat, k ≤ 16 ∧ i = .int .i64 k ∧ Hid (wr.heap[D]? = some (.cells (bytes (fill (Cha.outByte s s0) 0 64 (4 * k))) 29 (0, 0))) ∧ Hid (wr.heap[w.heap.size + 2]? = some (.cells (bytes (List.replicate 64 0)) 29 (0, 0))) ∧
          SlW wr (.slice (some ⟨bs, os, none⟩) 16 cs) s ∧ SlW wr (.slice (some ⟨bf, of, none⟩) 16 cf) s0 ∧ Below w.heap.size w wr) (fun i _ _ _ => 16 - (intOf i).toNat)
      case atStart => exact ⟨0, by omega, rfl, by rw [Nat.mul_zero, fill_zero]; exact HD, HZ', gs, gf, hwX⟩
      case round =>
        clear HD HZ' gs gf hwX hzX
        obtain ⟨k, hk, rfl, HD, HZ, gs, gf, hbk⟩ := hrel
        by_cases hlt : k < 16
        · have c1 := gs.cell k (by rw [HLs.out]; exact hlt)
          have c2 := gf.cell k (by rw [HL0.out]; exact hlt)
          unfold wordV at c1 c2
          have hfl := Lib.hid (fill_length (Cha.outByte s s0) 0 64 (4 * k) (by omega))
          have hO := fun j (hj : j < 4) => (cell_of_row wr D (4 * k + j) _ _ _ HD.out).trans (bytes_get? _ (4 * k + j) (by rw [hfl.out]; omega))
          have o0 := (cell_of_row wr D (4 * k) _ _ _ HD.out).trans (bytes_get? _ (4 * k) (by rw [hfl.out]; omega))
          have o1 := hO 1 (by omega)
          have o2 := hO 2 (by omega)
          have o3 := hO 3 (by omega)
          have f0 := frozen_of_row wr D (4 * k) _ _ HD.out
          have f1 := frozen_of_row wr D (4 * k + 1) _ _ HD.out
          have f2 := frozen_of_row wr D (4 * k + 2) _ _ HD.out
          have f3 := frozen_of_row wr D (4 * k + 3) _ _ HD.out
          generalize (fill (Cha.outByte s s0) 0 64 (4 * k)).getD (4 * k) 0 = z0 at o0
          generalize (fill (Cha.outByte s s0) 0 64 (4 * k)).getD (4 * k + 1) 0 = z1 at o1
          generalize (fill (Cha.outByte s s0) 0 64 (4 * k)).getD (4 * k + 2) 0 = z2 at o2
          generalize (fill (Cha.outByte s s0) 0 64 (4 * k)).getD (4 * k + 3) 0 = z3 at o3
          have HB := Lib.hid (Cha.outByte_at s s0 k)
          have HF := Lib.hid (fun j (h : j < 64) => fill_set (Cha.outByte s s0) 0 64 j h)
          clear hO
          generalize s.getD k 0 = x at c1 HB
          generalize s0.getD k 0 = y at c2 HB
          have hDs : ¬ D = bs := by omega
          have hDf : ¬ D = bf := by omega
          have ik : (k : Int) < 16 := by omega
          go_wp2
          go_quiet (fail)
          go_wp2
          refine wp_loop_rounds 5 ?_
          iterate 5
            rw [rounds_succ]
            go_wp2
          have HS : ∀ (u : World) (j o : Nat) (v : Int), j < 4 → o = 4 * k + j → v = bv (Cha.byteOf (x + y) j) → u.heap[D]? = some (.cells (bytes (fill (Cha.outByte s s0) 0 64 (4 * k + j))) 29 (0, 0)) →
              (u.setCell ⟨D, o, none⟩ (.int .u8 v)).heap[D]? = some (.cells (bytes (fill (Cha.outByte s s0) 0 64 (4 * k + (j + 1)))) 29 (0, 0)) := by
            intro u j o v hj ho hv hu
            subst ho
            have h := heap_setCell_same u D (4 * k + j) _ _ (.int .u8 v) hu
            rw [hv, bytes_set, ← HB.out j hj, HF.out _ (by omega)] at h
            rw [hv, ← HB.out j hj]
            exact h
          have h0 := wv_nonneg (x + y)
          have h1 := wv_lt (x + y)
          have B0 := byteOf_div (x + y) 0
          have B1 := byteOf_div (x + y) 1
          have B2 := byteOf_div (x + y) 2
          have B3 := byteOf_div (x + y) 3
          simp at B0 B1 B2 B3
          rw [Int.tmod_eq_emod_of_nonneg h0, Int.tdiv_eq_ediv_of_nonneg h0]
          have hs1 : bs ≠ D := by omega
          have hs2 : bf ≠ D := by omega
          refine ⟨⟨k + 1, by omega, by go_num, ?_, ?_, ?_, ?_, ?_⟩, by simp [intOf]; omega⟩
          · rw [show 4 * (k + 1) = 4 * k + (3 + 1) by omega]
            refine Lib.hid ?_
            refine HS _ 3 _ _ (by omega) (by omega) (by omega) ?_
            refine HS _ 2 _ _ (by omega) (by omega) (by omega) ?_
            refine HS _ 1 _ _ (by omega) (by omega) (by omega) ?_
            refine HS _ 0 _ _ (by omega) (by omega) (by omega) ?_
            exact HD.out
          · rw [heap_setCell_other _ _ _ _ (by simp; omega), heap_setCell_other _ _ _ _ (by simp; omega), heap_setCell_other _ _ _ _ (by simp; omega), heap_setCell_other _ _ _ _ (by simp; omega)]
            exact HZ
          · exact ((((gs.drewN _).setCell hs1 _).setCell hs1 _).setCell hs1 _).setCell hs1 _
          · exact ((((gf.drewN _).setCell hs2 _).setCell hs2 _).setCell hs2 _).setCell hs2 _
          · repeat (first | with_reducible exact hbk | with_reducible refine Below.drewN ?_ _ | with_reducible refine Below.setCell ?_ (by show w.heap.size ≤ D; omega) _)
        · obtain rfl : k = 16 := by omega
          rw [show 4 * 16 = 64 from rfl, fill_all, ← HBL.out] at HD
          have hbl : blk.length = 64 := by rw [HBL.out]; simp
          have hi := Lib.hid (show (Tryd.prog.info? 29).map (·.size) = some (bytes blk).size by rw [bytes_size, hbl]; kernel_rfl)
          have hwz := hbk.size
          go_wp2_with (first
            | (refine wpList_load_row rfl 29 (.tmp 10) rfl D rfl _ _ _ _ HD.out Tryd.underlying29 rfl hi.out ?_)
            | (refine wpList_store_row rfl 29 (.tmp 6) (.tmp 66) rfl (w.heap.size + 1 + 1) _ rfl rfl _ _ HZ.out hi.out (by rw [bytes_size, bytes_size, hbl]; rfl) (bytes_one _) ?_))
          have hfin := Lib.hid (setRow_heap wr (w.heap.size + 1 + 1) _ (bytes blk) _ _ HZ.out)
          exact bodyPost_ret (results_cell_row Tryd.results101 _ _ (w.heap.size + 1 + 1) _ _ _ _ rfl hfin.out Tryd.underlying29 rfl hi.out) rfl ⟨rfl, below_setRow hbk (by omega) _⟩
end Go.Proofs.YtnoilogepkelaaaDoor
namespace Go.Proofs.YtnoilogepkelaaaDoor
set_option linter.unusedVariables false
set_option linter.unusedSimpArgs false
open Go Go.RowKit
attribute [local go_sem] u32_add u8_xor'

theorem Cha.stream_one (key nonce b : List (BitVec 8)) (c : BitVec 32) (i j : Nat) (h : 64 * i + j < b.length) (hj : j < 64) : (Cha.stream key c nonce b).take (64 * i + j + 1) = (Cha.stream key c nonce b).take (64 * i + j) ++ [b.getD (64 * i + j) 0 ^^^ (Cha.block key (c + BitVec.ofNat 32 i) nonce).getD j 0] := by
  rw [take_one _ _ (by rw [Cha.stream_length]; exact h) 0, Cha.stream_getD _ _ _ _ _ h]
  unfold Cha.keyAt
  rw [show (64 * i + j) / 64 = i by omega, show (64 * i + j) % 64 = j by omega]

set_option maxRecDepth 100000 in
set_option maxHeartbeats 4000000 in
theorem rstream_any (key nonce b : List (BitVec 8)) (c : BitVec 32) (v : Value) (w : World) (hs : SlB w v b) (hk : key.length = 32) (hn : nonce.length = 12) (hl : b.length ≤ 100000000) :
    Calls Tryd.prog 96 #[.agg (bytes key), .int .u32 (wv c), .agg (bytes nonce), v] w fun e w' =>
      (Cha.fits c b.length = false ∧ e = .returned (.tuple #[.slice none 0 0, .int .i64 13]) ∧ Below w.heap.size w w') ∨
      (Cha.fits c b.length = true ∧ ∃ v', e = .returned (.tuple #[v', .int .i64 0]) ∧ OwnB 5 w.heap.size w' v' (Cha.stream key c nonce b) ∧ Below w.heap.size w w') := by
  obtain ⟨a, cap, rfl⟩ := hs.len
  have c0 := wv_nonneg c
  have c1 := wv_lt c
  have HS := Lib.hid hs
  have HK := Lib.hid hk
  have HN := Lib.hid hn
  have HIK := Lib.hid (show (Tryd.prog.info? 32).map (·.size) = some (bytes key).size by rw [bytes_size, hk]; kernel_rfl)
  have HIN := Lib.hid (show (Tryd.prog.info? 118).map (·.size) = some (bytes nonce).size by rw [bytes_size, hn]; kernel_rfl)
  have HBK := Lib.hid (fun (ck : BitVec 32) W => rcblock_any key nonce ck W hk hn)
  obtain ⟨n, hbn⟩ : ∃ n, b.length = n := ⟨_, rfl⟩
  have HBN := Lib.hid hbn
  rw [hbn] at hl HS ⊢
  obtain ⟨nb, hnb⟩ : ∃ nb : Nat, (n + 63) / 64 = nb := ⟨_, rfl⟩
  have hnb1 : ((n : Int) + 63) / 64 = nb := by omega
  have hnb2 : nb ≤ n := by omega
  have hnb3 : 64 * nb ≤ n + 63 ∧ n ≤ 64 * nb := by omega
  obtain ⟨fk, hfk⟩ : ∃ fk, bytes key = fk := ⟨_, rfl⟩
  obtain ⟨fn, hfn⟩ : ∃ fn, bytes nonce = fn := ⟨_, rfl⟩
  rw [hfk] at HIK HBK ⊢
  rw [hfn] at HIN HBK ⊢
  clear hs hk hn hbn hfk hfn
  obtain ⟨W, hW, hB1, hz1, hk1, hn1⟩ := alloc2 w (.cells fk 32) (.cells fn 118)
  have HX := Lib.hid (And.intro hB1 (And.intro hz1 (And.intro hk1 hn1)))
  have HS1 := Lib.hid (HS.out.below hB1 (Nat.le_refl _))
  have HW := Lib.hid hW
  clear hB1 hz1 hk1 hn1 hW HS
  by_cases hf : Cha.fits c n = true
  · have h1 : nb = 0 ∨ wv c + nb - 1 ≤ 4294967295 := by
      simp only [Cha.fits, Bool.or_eq_true, decide_eq_true_eq] at hf
      unfold wv
      omega
    have HF := Lib.hid hf
    clear hf hnb
    refine Calls.mono (R := fun e w' => ∃ v', e = .returned (.tuple #[v', .int .i64 0]) ∧ OwnB 5 w.heap.size w' v' (Cha.stream key c nonce b) ∧ Below w.heap.size w w') ?_ (fun e w' h => .inr ⟨HF.out, h⟩)
    have HWC : ∀ i : Nat, i < nb → (wv c + (i : Int)) % 4294967296 = wv (c + BitVec.ofNat 32 i) := by
      intro i hi
      unfold wv
      rw [BitVec.toNat_add, BitVec.toNat_ofNat]
      omega
    have HWC := Lib.hid HWC
    obtain ⟨cv, hcv⟩ : ∃ cv, wv c = cv := ⟨_, rfl⟩
    rw [hcv] at c0 c1 h1 HWC ⊢
    clear hcv
    go_enter Tryd.func96, Tryd.ntmps96
    go_upto_region 2 with fail
    rw [HW.out]
    go_cut [10, 28] (fun s10 s wx => s10 = .int .i64 nb ∧ s = .bool false ∧ wx = W)
    case first =>
      by_cases h0 : nb = 0
      · subst h0
        go_wp2_with fail
        go_meet
        case rel => exact ⟨by first | rfl | go_num, rfl, rfl⟩
      · have h1' : ¬ 4294967295 < cv + nb - 1 := by omega
        have h0' : 0 < nb := by omega
        clear h1
        go_wp2_with fail
        go_meet
        case rel => exact ⟨by first | rfl | go_num, rfl, rfl⟩
    case rest =>
      obtain ⟨rfl, rfl, rfl⟩ := hcut
      rename World => W0
      clear h1
      have hzW : W0.heap.size = w.heap.size + 2 := HX.out.2.1
      go_wp2
      go_loopw [11, 12] (fun s11 s12 wr => ∃ i : Nat, i ≤ nb ∧ s12 = .int .i64 i ∧ Hid (OwnB 5 W0.heap.size wr s11 ((Cha.stream key c nonce b).take (64 * i))) ∧ Hid (Below W0.heap.size W0 wr)) (fun _ s12 _ => nb - (intOf s12).toNat)
      case atStart => exact ⟨0, Nat.zero_le _, rfl, Lib.hid (OwnB.nil _ _ _), Lib.hid (Below.refl _ _)⟩
      case round =>
        obtain ⟨i, hi, rfl, HO, HB⟩ := hrel
        by_cases hlt : i < nb
        · have hwc := HWC.out i hlt
          have rK := (HB.out.block _ (by omega)).trans HX.out.2.2.1
          have rN := (HB.out.block _ (by omega)).trans HX.out.2.2.2
          have RK := Lib.hid rK
          have RN := Lib.hid rN
          have hbk := fun W => HBK.out (c + BitVec.ofNat 32 i) W
          have hbl := Cha.block_length key (c + BitVec.ofNat 32 i) nonce
          obtain ⟨blk, hblk⟩ : ∃ blk, Cha.block key (c + BitVec.ofNat 32 i) nonce = blk := ⟨_, rfl⟩
          rw [hblk] at hbk hbl
          have HBK2 := Lib.hid hbk
          have HBLK := Lib.hid hblk
          have HBL := Lib.hid hbl
          have IB := Lib.hid (show (Tryd.prog.info? 29).map (·.size) = some (bytes blk).size by rw [bytes_size, hbl]; kernel_rfl)
          have ZB := Lib.hid (show (bytes (List.replicate 64 0)).size = (bytes blk).size by rw [bytes_size, bytes_size, hbl]; rfl)
          clear rK rN hbk hbl hblk
          go_upto_region 10 with (first
            | (refine wpList_load_row rfl 32 (.tmp 4) rfl (w.heap.size) rfl _ _ _ _ RK.out Tryd.underlying32 rfl HIK.out ?_)
            | (refine wpList_load_row rfl 118 (.tmp 6) rfl (w.heap.size + 1) rfl _ _ _ _ RN.out Tryd.underlying118 rfl HIN.out ?_)
            | (go_at_call 101; with_reducible refine Calls.mono (HBK2.out _) ?_; rintro e w3 ⟨rfl, hb3⟩; have HB3 := Lib.hid hb3; clear hb3)
            | (refine wpList_store_row rfl 29 (.tmp 13) (.tmp 40) rfl _ _ rfl rfl _ _ (heap_alloc_new _ _) IB.out ZB.out (bytes_one _) ?_; rw [World.setRow_alloc_new]))
          have hz3 := HB3.out.size
          have hX : ∃ X, w3.alloc (.cells (bytes blk) 29) = X ∧ Below wr.heap.size wr X ∧ X.heap.size = w3.heap.size + 1 ∧ X.heap[w3.heap.size]? = some (.cells (bytes blk) 29 (0, 0)) :=
            ⟨_, rfl, HB3.out.trans (((Below.refl _ w3).alloc (Nat.le_refl _) _).mono hz3), by simp, heap_alloc_new _ _⟩
          obtain ⟨X, hX, hBX, hXs, hXb⟩ := hX
          rw [hX]
          have hzr := HB.out.size
          have HBX := Lib.hid (HB.out.trans (hBX.mono hzr))
          have HXB := Lib.hid hXb
          have HOX := Lib.hid (HO.out.below hBX (Nat.le_refl _))
          generalize w3.heap.size = D at *
          clear hX hBX hXb HO HB hwc RK RN HBK2 IB ZB
          go_loopw [11, 14] (fun s11 s14 wq => ∃ j : Nat, j ≤ 64 ∧ 64 * i + j ≤ n ∧ s14 = .int .i64 ((64 * i + j : Nat) : Int) ∧ Hid (OwnB 5 W0.heap.size wq s11 ((Cha.stream key c nonce b).take (64 * i + j))) ∧ Hid (Below X.heap.size X wq ∨ True) ∧ Hid (Below W0.heap.size W0 wq) ∧ Hid (wq.heap[D]? = some (.cells (bytes blk) 29 (0, 0)))) (fun _ s14 _ => n + 64 - (intOf s14).toNat)
          case atStart => exact ⟨0, Nat.zero_le _, by omega, by rw [Nat.add_zero]; go_num, by rw [Nat.add_zero]; exact HOX, Lib.hid (.inl (Below.refl _ _)), HBX, HXB⟩
          case round =>
            clear HOX HBX HXB
            obtain ⟨j, hj, hjn, rfl, HO, _, HB, HD⟩ := hrel
            obtain ⟨m, hm⟩ : ∃ m : Nat, 64 * i + j = m := ⟨_, rfl⟩
            have hsub : (m : Int) - 64 * (i : Int) = j := by omega
            rw [hm] at HO hjn ⊢
            go_upto_region 10 with fail
            go_cut [53] (fun s wx => s = .bool (decide (j < 64 ∧ m < n)) ∧ wx = wr)
            case first =>
              by_cases h1 : j < 64
              · have h1' : (m : Int) < 64 * (i : Int) + 64 := by omega
                by_cases h2 : m < n
                all_goals
                  go_wp2_with fail
                  go_meet
                  case rel => exact ⟨by simp [h1, h2] <;> omega, rfl⟩
              · have h1' : ¬ (m : Int) < 64 * (i : Int) + 64 := by omega
                go_wp2_with fail
                go_meet
                case rel => exact ⟨by simp [h1] <;> omega, rfl⟩
            case rest =>
              by_cases hc : j < 64 ∧ m < n
              · rw [decide_eq_true hc] at hcut
                obtain ⟨rfl, rfl⟩ := hcut
                obtain ⟨h1, h2⟩ := hc
                have hn0 : 0 < n := by omega
                obtain ⟨bb, off, capb, hsv, _, _⟩ := HS1.out.open_ n HBN.out hn0
                simp only [Value.slice.injEq] at hsv
                obtain ⟨rfl, _, rfl⟩ := hsv
                obtain ⟨x, hx⟩ : ∃ x, b.getD m 0 = x := ⟨_, rfl⟩
                obtain ⟨y, hy⟩ : ∃ y, blk.getD j 0 = y := ⟨_, rfl⟩
                have cg : wc.cell? ⟨bb, off + m, none⟩ = some (.int .u8 (bv x)) := by
                  rw [(HS1.out.below HB.out (Nat.le_refl _)).cell m (by rw [HBN.out]; exact h2), hx]; rfl
                have cb : wc.cell? ⟨D, j, none⟩ = some (.int .u8 (bv y)) := (cell_of_row _ _ _ _ _ _ HD.out).trans (by rw [bytes_get? _ _ (by rw [HBL.out]; omega), hy])
                have hst := Cha.stream_one key nonce b c i j (by rw [hm, HBN.out]; exact h2) h1
                rw [HBLK.out, hm, hx, hy] at hst
                have HST := Lib.hid hst
                have hzq := HB.out.size
                obtain ⟨a', cap', rfl⟩ := HO.out.sl.len
                have hll : ((Cha.stream key c nonce b).take m).length = m := by rw [List.length_take, Cha.stream_length, HBN.out]; omega
                rw [hll] at HO ⊢
                have HLL := Lib.hid hll
                have hjm : j ≤ m := by omega
                have h1i : (j : Int) < 64 := by omega
                have e1 : IntKind.i64.wrap (64 * (i : Int)) = 64 * i := by rw [IntKind.wrap_i64]; omega
                have e2 : IntKind.i64.wrap (j : Int) = j := by rw [IntKind.wrap_i64]; omega
                have HMJ := Lib.hid hm
                clear hx hy hst hm hll
                generalize (Cha.stream key c nonce b).take m = tk at HO HST HLL
                have hown := HO.out.2
                have ak : (Value.slice a' m cap').ownBlock ≠ some bb := fun e => by have := (World.ownsRow.lt HO.out bb e).1; omega
                have ad : (Value.slice a' m cap').ownBlock ≠ some D := fun e => by
                  rcases HO.out.2 with ⟨hn, _⟩ | ⟨g', c', cur, e', _, hb', _⟩
                  · rw [hn] at e; cases e
                  · rw [e'] at e
                    simp only [Value.ownBlock, Option.some.injEq] at e
                    subst e
                    rw [hb'] at HD
                    have := HD.out
                    simp at this
                have lb : bb < wc.heap.size := by omega
                have lD : D < wc.heap.size := (Array.getElem?_eq_some_iff.1 HD.out).1
                obtain ⟨i0, hi0, hz0, hz1, hz2⟩ := info_parts info_u8
                have hm0 : (0 : Int) ≤ (m : Int) := Int.natCast_nonneg _
                have hm1 : (m : Int) < (n : Int) := by omega
                have hj0 : (0 : Int) ≤ (j : Int) := Int.natCast_nonneg _
                have hlen : tk.length + 1 ≤ 1000000000 := by rw [HLL.out]; omega
                have HOW := HO.out
                clear hown
                go_upto_region 12 with fail
                go_region_held3 (fun w' => w'.cell? ⟨bb, off + m, none⟩ = some (.int .u8 (bv x)) ∧ w'.cell? ⟨D, j, none⟩ = some (.int .u8 (bv y)))
                  (first
                    | go_keep
                    | (go_split_ands
                       refine ⟨?_, ?_⟩
                       · (rw [hgrow.cell_far _ (by simp; omega) (Ne.symm ak)]; assumption)
                       · (rw [hgrow.cell_far _ (by simp; omega) (Ne.symm ad)]; assumption)))
                  ((refine step_append_lies _ (by rfl) _ _ _ (by rfl) W0.heap.size 5 i0 _ 1 1 Tryd.underlying22 hi0 hz0 hz1 hz2 rfl (by omega) (.slice a' m cap') tk.length (bcells tk) (by rfl) ((HOW.alloc _).drew)
                      ⟨wc.heap.size, 0, none⟩ 1 1 [.int .u8 (bv (x ^^^ y))] (by rfl) (by rfl) (World.news_of_block (cs := #[.int .u8 (bv (x ^^^ y))]) (t := 5) (fr := (0, 0)) (heap_alloc_new wc _)) (by simp [Value.oneCell'])
                      (by omega) (by unfold maxLen; omega) (by omega) (by simp; omega) (wc.heap.size + 1) (by simp) ?_; intro gg cap w1 hown1 hgrow hat hlt))
                have hd1 : w1.heap[D]? = some (.cells (bytes blk) 29 (0, 0)) := (hgrow.block D (by simp; omega) (fun e => ad e.symm)).trans ((heapA_old wc _ D lD).trans HD.out)
                have hb1 : Below W0.heap.size W0 w1 := ((HB.out.alloc hzq _).drew).grown hgrow (by simp; omega) (fun k e => (World.ownsRow.lt HO.out k e).1)
                have ho1 : OwnB 5 W0.heap.size w1 (.slice (some ⟨gg, 0, none⟩) (tk.length + 1) cap) ((Cha.stream key c nonce b).take (64 * i + (j + 1))) := by
                  rw [← Nat.add_assoc, HMJ.out, HST.out]
                  simpa [OwnB, bcells_append, bcells, byteV] using hown1
                have HO2 := Lib.hid ho1
                have HB2 := Lib.hid hb1
                have HD2 := Lib.hid hd1
                have hmj := HMJ.out
                clear hd1 hb1 ho1 hown1 hgrow
                go_wp2
                exact ⟨⟨j + 1, by omega, by omega, by go_num, HO2, Lib.hid (.inr trivial), HB2, HD2⟩, by simp [intOf]; omega⟩
              · rw [decide_eq_false hc] at hcut
                obtain ⟨rfl, rfl⟩ := hcut
                have HO2 : Hid (OwnB 5 W0.heap.size wc u11 ((Cha.stream key c nonce b).take (64 * (i + 1)))) := Lib.hid (by
                  have h := HO.out
                  by_cases h64 : j = 64
                  · rw [show 64 * (i + 1) = m by omega]; exact h
                  · rw [List.take_of_length_le (by rw [Cha.stream_length, HBN.out]; omega)] at h ⊢; exact h)
                go_wp2
                exact ⟨⟨i + 1, by omega, by go_num, HO2, HB⟩, by simp [intOf]; omega⟩
        · obtain rfl : i = nb := by omega
          go_wp2
          go_ret2
          refine ⟨_, rfl, ?_, HX.out.1.trans (HB.out.mono (by omega))⟩
          have h := HO.out
          rw [List.take_of_length_le (by rw [Cha.stream_length, HBN.out]; omega)] at h
          exact h.mono (by omega)
  · have h1 : ¬ nb = 0 ∧ 4294967295 < wv c + nb - 1 := by
      simp only [Cha.fits, Bool.or_eq_true, decide_eq_true_eq] at hf
      unfold wv
      omega
    have hf' : Cha.fits c n = false := by simpa using hf
    have HF := Lib.hid hf'
    clear hf hf' hnb
    refine Calls.mono (R := fun e w' => e = .returned (.tuple #[.slice none 0 0, .int .i64 13]) ∧ Below w.heap.size w w') ?_ (fun e w' h => .inl ⟨HF.out, h⟩)
    generalize wv c = cv at *
    obtain ⟨h0, h1⟩ := h1
    have h0' : 0 < nb := by omega
    go_enter Tryd.func96, Tryd.ntmps96
    go_wp2
    go_ret2
    exact ⟨rfl, ((Below.refl _ w).alloc (Nat.le_refl _) _).alloc (by simp) _⟩
end Go.Proofs.YtnoilogepkelaaaDoor
