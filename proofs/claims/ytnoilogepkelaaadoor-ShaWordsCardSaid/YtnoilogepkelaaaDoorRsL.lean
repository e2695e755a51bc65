/-
  The document's sha: Of.
-/
import Derived.Test.YtnoilogepkelaaaDoorRsLp
namespace Go.Proofs.YtnoilogepkelaaaDoor
set_option linter.unusedVariables false
set_option linter.unusedSimpArgs false
open Go Go.RowKit

theorem strB_cut (xs : List (BitVec 8)) (i j : Nat) : (strB xs).extract i j = strB ((xs.take j).drop i) := by
  apply ByteArray.ext
  apply Array.toList_inj.1
  have hd : ∀ ys, (strB ys).data.toList = (ys.map bv).map (fun n => UInt8.ofNat n.toNat) := fun ys => strOfNums_data _
  rw [ByteArray.data_extract, Array.toList_extract, hd, hd]
  simp [List.extract, List.map_take, List.map_drop, List.drop_take]
theorem cut_two (xs : List (BitVec 8)) (p : Nat) (h : p + 1 < xs.length) : (xs.take (p + 2)).drop p = [xs.getD p 0, xs.getD (p + 1) 0] := by
  rw [List.drop_take, show p + 2 - p = 2 by omega, List.drop_eq_getElem_cons (show p < xs.length by omega), List.drop_eq_getElem_cons h]
  rw [List.getD, List.getD, List.getElem?_eq_getElem h, List.getElem?_eq_getElem (show p < xs.length by omega)]
  rfl
theorem beq_strB (a b : List (BitVec 8)) : ((strB a).toList == (strB b).toList) = decide (a = b) := by
  by_cases h : a = b
  · subst h
    simp
  · rw [decide_eq_false h, beq_eq_false_iff_ne]
    exact fun e => h (strB_inj (by rw [ByteArray.toList_eq, ByteArray.toList_eq] at e; exact ByteArray.ext (Array.toList_inj.1 e)))

/-- What Of holds between its rounds. -/
structure ROf (w : World) (R : Nat) (r : List (BitVec 8)) (wr : World) : Prop where
  eq : R = w.heap.size + 1
  out : wr.heap[w.heap.size]? = some (.cells (bytes (List.replicate 32 0)) 32 (0, 0))
  row : wr.heap[R]? = some (.cells (bytes r) 32 (0, 0))
  below : Below w.heap.size w wr
theorem ROf.drew {w : World} {R : Nat} {r : List (BitVec 8)} {wr : World} (h : ROf w R r wr) : ROf w R r wr.drew := ⟨h.eq, h.out, h.row, h.below.drew⟩
theorem ROf.step {w : World} {R : Nat} {r : List (BitVec 8)} {wr w' : World} (h : ROf w R r wr) (hb : Below wr.heap.size wr w') : ROf w R r w' :=
  ⟨h.eq, (hb.block _ (Array.getElem?_eq_some_iff.1 h.out).1).trans h.out, (hb.block _ (Array.getElem?_eq_some_iff.1 h.row).1).trans h.row, h.below.trans (hb.mono h.below.size)⟩
theorem ROf.setR {w : World} {R : Nat} {r : List (BitVec 8)} {wr : World} (h : ROf w R r wr) (p : Nat) (x : BitVec 8) : ROf w R (r.set p x) (wr.setCell ⟨R, p, none⟩ (.int .u8 (bv x))) := by
  have hl := h.eq
  refine ⟨h.eq, (heap_setCell_other _ _ _ _ (by simp; omega)).trans h.out, ?_, h.below.setCell (p := ⟨R, p, none⟩) (by simp; omega) _⟩
  have h2 := heap_setCell_same wr R p _ _ (.int .u8 (bv x)) h.row
  rwa [bytes_set] at h2

set_option maxRecDepth 100000 in
set_option maxHeartbeats 4000000 in
theorem rof_any (xs : List (BitVec 8)) (hl : xs.length ≤ 1000000) (w : World) :
    Calls Tryd.prog 35 #[.string (strB xs)] w fun e w' => e = .returned (.tuple #[.agg (bytes ((Sha.of xs).getD (List.replicate 32 0))), .bool (Sha.of xs).isSome]) ∧ Below w.heap.size w w' := by
  have HIH := Lib.hid (fun (xs : List (BitVec 8)) (h : xs.length = 32) => (show (Tryd.prog.info? 32).map (·.size) = some (bytes xs).size by rw [bytes_size, h]; kernel_rfl))
  obtain ⟨X, hX, hBX, hXs, hX0, hX1⟩ := alloc2 w (.cells (bytes (List.replicate 32 0)) 32) (.cells (bytes (List.replicate 32 0)) 32)
  have HX := Lib.hid (show (w.alloc (.cells #[.int .u8 0, .int .u8 0, .int .u8 0, .int .u8 0, .int .u8 0, .int .u8 0, .int .u8 0, .int .u8 0, .int .u8 0, .int .u8 0, .int .u8 0, .int .u8 0, .int .u8 0, .int .u8 0, .int .u8 0, .int .u8 0, .int .u8 0, .int .u8 0, .int .u8 0, .int .u8 0, .int .u8 0, .int .u8 0, .int .u8 0, .int .u8 0, .int .u8 0, .int .u8 0, .int .u8 0, .int .u8 0, .int .u8 0, .int .u8 0, .int .u8 0, .int .u8 0] 32)).alloc (.cells #[.int .u8 0, .int .u8 0, .int .u8 0, .int .u8 0, .int .u8 0, .int .u8 0, .int .u8 0, .int .u8 0, .int .u8 0, .int .u8 0, .int .u8 0, .int .u8 0, .int .u8 0, .int .u8 0, .int .u8 0, .int .u8 0, .int .u8 0, .int .u8 0, .int .u8 0, .int .u8 0, .int .u8 0, .int .u8 0, .int .u8 0, .int .u8 0, .int .u8 0, .int .u8 0, .int .u8 0, .int .u8 0, .int .u8 0, .int .u8 0, .int .u8 0, .int .u8 0] 32) = X from hX)
  have HR0 := Lib.hid (show ROf w (w.heap.size + 1) (fill (Sha.ofVal xs) 0 32 0) X from ⟨rfl, hX0, by rw [fill_zero]; exact hX1, hBX⟩)
  have HZ := Lib.hid (show fill (Sha.ofVal xs) 0 32 0 = List.replicate 32 0 from fill_zero _ _ _)
  have hss := strB_size xs
  clear hX hBX hXs hX0 hX1
  have HI0 := Lib.hid (HIH.out (List.replicate 32 0) (by simp))
  by_cases h64 : xs.length = 64
  · have HTX : Hid (∀ (n : Nat) W, n < 256 → Calls Tryd.prog 37 #[.agg #[.int .u8 (n : Int), .int .u8 0, .int .u8 0, .int .u8 0, .int .u8 0, .int .u8 0, .int .u8 0, .int .u8 0, .int .u8 0, .int .u8 0, .int .u8 0, .int .u8 0, .int .u8 0, .int .u8 0, .int .u8 0, .int .u8 0, .int .u8 0, .int .u8 0, .int .u8 0, .int .u8 0, .int .u8 0, .int .u8 0, .int .u8 0, .int .u8 0, .int .u8 0, .int .u8 0, .int .u8 0, .int .u8 0, .int .u8 0, .int .u8 0, .int .u8 0, .int .u8 0]] W fun e w' => e = .returned (.string (strB (Sha.text (BitVec.ofNat 8 n :: List.replicate 31 0)))) ∧ Below W.heap.size W w') := Lib.hid (fun n W hn => by
      have h := rtext_any (BitVec.ofNat 8 n :: List.replicate 31 0) (by simp) W
      rwa [show bytes (BitVec.ofNat 8 n :: List.replicate 31 0) = #[.int .u8 (n : Int), .int .u8 0, .int .u8 0, .int .u8 0, .int .u8 0, .int .u8 0, .int .u8 0, .int .u8 0, .int .u8 0, .int .u8 0, .int .u8 0, .int .u8 0, .int .u8 0, .int .u8 0, .int .u8 0, .int .u8 0, .int .u8 0, .int .u8 0, .int .u8 0, .int .u8 0, .int .u8 0, .int .u8 0, .int .u8 0, .int .u8 0, .int .u8 0, .int .u8 0, .int .u8 0, .int .u8 0, .int .u8 0, .int .u8 0, .int .u8 0, .int .u8 0] by
        rw [show bytes (BitVec.ofNat 8 n :: List.replicate 31 0) = #[.int .u8 (bv (BitVec.ofNat 8 n)), .int .u8 0, .int .u8 0, .int .u8 0, .int .u8 0, .int .u8 0, .int .u8 0, .int .u8 0, .int .u8 0, .int .u8 0, .int .u8 0, .int .u8 0, .int .u8 0, .int .u8 0, .int .u8 0, .int .u8 0, .int .u8 0, .int .u8 0, .int .u8 0, .int .u8 0, .int .u8 0, .int .u8 0, .int .u8 0, .int .u8 0, .int .u8 0, .int .u8 0, .int .u8 0, .int .u8 0, .int .u8 0, .int .u8 0, .int .u8 0, .int .u8 0] from rfl, show bv (BitVec.ofNat 8 n) = (n : Int) by unfold bv; rw [BitVec.toNat_ofNat]; omega]] at h)
    have HCMP := Lib.hid (fun (n i : Nat) (hn : n < 256) (hi : i < 32) => (show (((strB (Sha.text (BitVec.ofNat 8 n :: List.replicate 31 0))).extract 0 2).toList == ((strB xs).extract (2 * i) (2 * i + 2)).toList) = decide (Sha.two (BitVec.ofNat 8 n) = [xs.getD (2 * i) 0, xs.getD (2 * i + 1) 0]) by
      rw [strB_cut, strB_cut, cut_two xs (2 * i) (by omega), List.drop_zero, Sha.text_first n hn, beq_strB]))
    have HTS := Lib.hid (fun n => (show (strB (Sha.text (BitVec.ofNat 8 n :: List.replicate 31 0))).size = 64 by rw [strB_size, Sha.text_length]; simp))
    have HOY := Lib.hid (fun (n i : Nat) hn h => Sha.ofOk_two xs i n hn h)
    have HON := Lib.hid (fun i h => Sha.ofOk_no xs i h)
    have HOG := Lib.hid (fun hk => Sha.of_good xs h64 hk)
    have HOB := Lib.hid (fun i hi h => Sha.of_bad xs i hi h)
    have HFS := Lib.hid (fun i (h : i < 32) => fill_set (Sha.ofVal xs) 0 32 i h)
    have HFL := Lib.hid (fun i (h : i ≤ 32) => fill_length (Sha.ofVal xs) 0 32 i h)
    obtain ⟨TX, hTX⟩ : ∃ TX : Nat → ByteArray, ∀ n, strB (Sha.text (BitVec.ofNat 8 n :: List.replicate 31 0)) = TX n := ⟨_, fun _ => rfl⟩
    simp only [hTX] at HTX HCMP HTS
    clear hTX
    rw [h64] at hss
    obtain ⟨S, hS⟩ : ∃ S, strB xs = S := ⟨_, rfl⟩
    simp only [hS] at HCMP
    rw [hS] at hss ⊢
    clear hS
    go_enter Tryd.func35, Tryd.ntmps35
    go_upto_region 2 with fail
    rw [HX.out]
    clear HX
    generalize w.heap.size + 1 = R at *
    go_wp2
    go_loopw [5] (fun s wr => ∃ i : Nat, i ≤ 32 ∧ s = .int .i64 i ∧ Hid (ROf w R (fill (Sha.ofVal xs) 0 32 i) wr) ∧ Hid (∀ j, j < i → Sha.ofOk xs j = true)) (fun s _ => 32 - (intOf s).toNat)
    case atStart => exact ⟨0, by omega, rfl, HR0, Lib.hid (fun j hj => absurd hj (by omega))⟩
    case round =>
      clear HR0
      obtain ⟨i, hi, rfl, HI, HK⟩ := hrel
      by_cases hlt : i < 32
      · have hi32 : (i : Int) < 32 := by omega
        go_wp2
        go_loopw [6, 7] (fun s6 s7 wn => ∃ n : Nat, n ≤ 256 ∧ s7 = .int .i64 n ∧ ((s6 = .bool false ∧ Hid (∀ k, k < n → Sha.two (BitVec.ofNat 8 k) ≠ [xs.getD (2 * i) 0, xs.getD (2 * i + 1) 0]) ∧ Hid (ROf w R (fill (Sha.ofVal xs) 0 32 i) wn)) ∨ (s6 = .bool true ∧ Hid (Sha.ofOk xs i = true) ∧ Hid (ROf w R (fill (Sha.ofVal xs) 0 32 (i + 1)) wn)))) (fun _ s7 _ => 300 - (intOf s7).toNat)
        case atStart => exact ⟨0, by omega, rfl, .inl ⟨rfl, Lib.hid (fun k hk => absurd hk (by omega)), HI⟩⟩
        case round =>
          clear HI
          obtain ⟨n, hn, rfl, hor⟩ := hrel
          rcases hor with ⟨rfl, HNO, HI⟩ | ⟨rfl, HOKI, HI⟩
          · by_cases hn256 : n < 256
            · have hn' : (n : Int) < 256 := by omega
              have wn8 : IntKind.u8.wrap (n : Int) = n := by rw [IntKind.wrap_u8]; omega
              have wm8 : (n : Int) % 256 = n := by omega
              go_upto_region 12 with (go_at_call 37; refine (HTX.out n _ hn256).mono ?_; rintro e w1 ⟨rfl, hb⟩; have HI1 := Lib.hid (HI.out.step hb); clear hb)
              have hcmp := HCMP.out n i hn256 hlt
              have hts := HTS.out n
              obtain ⟨T, hT⟩ : ∃ T, TX n = T := ⟨_, rfl⟩
              rw [hT] at hcmp hts ⊢
              clear hT
              obtain ⟨p, hp⟩ : ∃ p, 2 * i = p := ⟨_, rfl⟩
              have hp1 : 2 * (i : Int) = (p : Int) := by omega
              have hp62 : p ≤ 62 := by omega
              have hpi : (p : Int) ≤ 62 := by omega
              have wp : IntKind.i64.wrap (p : Int) = p := by rw [IntKind.wrap_i64]; omega
              have wp2 : IntKind.i64.wrap ((p : Int) + 2) = (p : Int) + 2 := by rw [IntKind.wrap_i64]; omega
              have c0 := (cell_of_row w1 R i _ _ _ HI1.out.row).trans (bytes_get? _ i (by rw [HFL.out i hi]; exact hlt))
              have f0 := frozen_of_row w1 R i _ _ HI1.out.row
              by_cases hm : Sha.two (BitVec.ofNat 8 n) = [xs.getD (2 * i) 0, xs.getD (2 * i + 1) 0]
              · rw [decide_eq_true hm, hp] at hcmp
                have hv := HOY.out n i hn256 hm
                have HOKI := Lib.hid hv.1
                have hr := HI1.out.drew.setR i (BitVec.ofNat 8 n)
                rw [← hv.2, HFS.out i hlt, hv.2, show bv (BitVec.ofNat 8 n) = (n : Int) by unfold bv; rw [BitVec.toNat_ofNat]; omega] at hr
                have HR := Lib.hid hr
                clear hr hv hm hp
                go_region
                go_wp2
                exact ⟨⟨n + 1, by omega, by go_num, .inr ⟨rfl, HOKI, HR⟩⟩, by simp [intOf]; omega⟩
              · rw [decide_eq_false hm, hp] at hcmp
                have HM := Lib.hid (show ∀ k, k < n + 1 → Sha.two (BitVec.ofNat 8 k) ≠ [xs.getD (2 * i) 0, xs.getD (2 * i + 1) 0] from fun k hk => by
                  by_cases e : k = n
                  · subst e; exact hm
                  · exact HNO.out k (by omega))
                have HR := Lib.hid HI1.out.drew
                clear hm hp
                go_region
                go_wp2
                exact ⟨⟨n + 1, by omega, by go_num, .inl ⟨rfl, HM, HR⟩⟩, by simp [intOf]; omega⟩
            · obtain rfl : n = 256 := by omega
              have hno := HOB.out i hlt (HON.out i (fun k hk => HNO.out k hk))
              have HNN := Lib.hid hno
              clear hno
              have HT0 : Hid (wr.setRow w.heap.size (bytes (List.replicate 32 0)) = wr) := setRow_self _ _ _ _ _ HI.out.out
              go_wp2_with (refine wpList_store_row rfl 32 (.tmp 2) (.tmp 45) rfl w.heap.size (bytes (List.replicate 32 0)) rfl rfl _ _ HI.out.out HI0.out rfl (bytes_one _) ?_; rw [HT0.out])
              exact bodyPost_ret (results_row_tmp Tryd.results35 _ _ w.heap.size _ _ _ _ rfl HI.out.out Tryd.underlying32 rfl HI0.out) rfl ⟨by rw [HNN.out]; rfl, HI.out.below⟩
          · have HKI := Lib.hid (show ∀ j, j < i + 1 → Sha.ofOk xs j = true from fun j hj => by
              by_cases e : j = i
              · subst e; exact HOKI.out
              · exact HK.out j (by omega))
            by_cases hq : (n : Int) < 256
            · go_wp2
              exact ⟨⟨i + 1, by omega, by go_num, HI, HKI⟩, by simp [intOf]; omega⟩
            · go_wp2
              exact ⟨⟨i + 1, by omega, by go_num, HI, HKI⟩, by simp [intOf]; omega⟩
      · obtain rfl : i = 32 := by omega
        have hof := HOG.out (fun j hj => HK.out j hj)
        have HOF := Lib.hid hof
        clear hof
        have HIF := Lib.hid (HIH.out _ (HFL.out 32 (Nat.le_refl _)))
        go_wp2_with (first
          | (refine wpList_load_row rfl 32 (.tmp 4) rfl R rfl _ _ _ _ HI.out.row Tryd.underlying32 rfl HIF.out ?_)
          | (refine wpList_store_row rfl 32 (.tmp 2) (.tmp 46) rfl w.heap.size _ rfl rfl _ _ HI.out.out HIF.out (by rw [bytes_size, bytes_size, HFL.out 32 (Nat.le_refl _)]; rfl) (bytes_one _) ?_))
        exact bodyPost_ret (results_row_tmp Tryd.results35 _ _ w.heap.size _ _ _ _ rfl (setRow_heap _ _ _ _ _ _ HI.out.out) Tryd.underlying32 rfl HIF.out) rfl ⟨by rw [HOF.out]; rfl, HI.out.below.trans (((Kept.refl [w.heap.size] wr).setRow (by simp) _).toBelow (B := w.heap.size) (by simp) HI.out.below.size)⟩
  · rw [Sha.of_short xs h64]
    have HX0 := Lib.hid HR0.out.out
    have hr := HR0.out.row
    rw [HZ.out] at hr
    have HX1 := Lib.hid hr
    have HXB := Lib.hid HR0.out.below
    obtain ⟨S, hS⟩ : ∃ S, strB xs = S := ⟨_, rfl⟩
    obtain ⟨n, hn⟩ : ∃ n, xs.length = n := ⟨_, rfl⟩
    rw [hS, hn] at hss
    rw [hS]
    have h64' : ¬ (n : Int) = 64 := by omega
    have HT0 : Hid (X.setRow w.heap.size (bytes (List.replicate 32 0)) = X) := setRow_self _ _ _ _ _ HX0.out
    clear hr HR0 hS hn
    go_enter Tryd.func35, Tryd.ntmps35
    go_upto_region 2 with fail
    rw [HX.out]
    clear HX
    go_wp2_with (first
      | (refine wpList_load_row rfl 32 (.tmp 4) rfl (w.heap.size + 1) rfl _ _ _ _ HX1.out Tryd.underlying32 rfl HI0.out ?_)
      | (refine wpList_store_row rfl 32 (.tmp 2) (.tmp 12) rfl w.heap.size (bytes (List.replicate 32 0)) rfl rfl _ _ HX0.out HI0.out rfl (bytes_one _) ?_; rw [HT0.out]))
    exact bodyPost_ret (results_row_tmp Tryd.results35 _ _ w.heap.size _ _ _ _ rfl HX0.out Tryd.underlying32 rfl HI0.out) rfl ⟨rfl, HXB.out⟩
end Go.Proofs.YtnoilogepkelaaaDoor
