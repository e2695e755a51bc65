/-
  The law ShaFolds: its walk.
-/
import Derived.Test.YtnoilogepkelaaaDoorShaL2
import Derived.Test.YtnoilogepkelaaaDoorShaT
import Derived.Deep.DeepCutAuto
namespace Go.Proofs.YtnoilogepkelaaaDoor
set_option linter.unusedVariables false
set_option linter.unusedSimpArgs false
open Go Go.RowKit

theorem law_shaFolds_long (b : List (BitVec 8)) (v0 : Value) (w : World) (h0 : SlB w v0 b) (hl : 3000 < b.length) (hG : Glob w) :
    Calls Tryd.prog 3 #[v0] w fun e w' => e = .returned (.bool true) ∧ Below w.heap.size w w' := by
  obtain ⟨a0, cap0, rfl⟩ := h0.len
  have HAW := Lib.hid (awake_any w hG)
  generalize b.length = n0 at *
  clear h0 hG
  have h : (3000 : Int) < (n0 : Int) := by omega
  go_enter Tryd.func3, Tryd.ntmps3
  go_wp2_with (go_at_call 23; refine HAW.out.mono ?_; rintro e w5 ⟨rfl, hbw⟩)
  go_ret
  exact ⟨rfl, hbw⟩

set_option maxRecDepth 100000 in
set_option maxHeartbeats 4000000 in
theorem law_shaFolds_ok (b : List (BitVec 8)) (v0 : Value) (w : World) (h0 : SlB w v0 b) (hl0 : b.length ≤ 3000) (hG : Glob w) :
    Calls Tryd.prog 3 #[v0] w fun e w' => e = .returned (.bool true) ∧ Below w.heap.size w w' := by
  obtain ⟨a0, cap0, rfl⟩ := h0.len
  have hbl := Sha.behind_length b.length
  have hmp := Sha.many_pos b.length
  have hwh := Sha.behind_whole b.length
  have HS0 := Lib.hid h0
  have hgz := hG.size
  have HGB := Lib.hid (fun W (hB : Below w.heap.size w W) => hG.below hB hgz)
  have HAW := Lib.hid (fun W (hB : Below w.heap.size w W) => awake_any W (hG.below hB hgz))
  have HST := Lib.hid (fun W (hB : Below w.heap.size w W) => start_any W (hG.below hB hgz))
  have HBH := Lib.hid (fun W => behind_any b.length (by omega) W)
  have HMX := Lib.hid (fun ws blk (h1 : ws.length = 8) (h2 : blk.length = 64) W (hB : Below w.heap.size w W) => mix_any ws blk h1 h2 W (HGB.out W hB))
  have HSM := Lib.hid (fun W (hB : Below w.heap.size w W) => sum_any b _ W (h0.below hB (Nat.le_refl _)) (by omega) (HGB.out W hB))
  have HTO := Lib.hid (fun W => ltold_any (Sha.fold Sha.starts (b ++ Sha.behind b.length)) (Sha.foldN_length _ _ _ rfl) W)
  rw [show Sha.told (Sha.fold Sha.starts (b ++ Sha.behind b.length)) = Sha.sum b from rfl] at HTO
  have HIW := Lib.hid (fun (xs : List (BitVec 32)) (h : xs.length = 8) => (show (Tryd.prog.info? 27).map (·.size) = some (words xs).size by rw [words_size, h]; kernel_rfl))
  have HIB := Lib.hid (fun (xs : List (BitVec 8)) (h : xs.length = 64) => (show (Tryd.prog.info? 29).map (·.size) = some (bytes xs).size by rw [bytes_size, h]; kernel_rfl))
  have HEQ := Lib.hid (fun W => run_eql_hash (n := 32) Tryd.underlying32 (by kernel_rfl) (Sha.sum b) (Sha.sum_length b) W)
  have HFL := Lib.hid (fun k => Sha.foldN_length Sha.starts (b ++ Sha.behind b.length) k rfl)
  obtain ⟨all, hall⟩ : ∃ all, b ++ Sha.behind b.length = all := ⟨_, rfl⟩
  have hN : all.length = b.length + (Sha.behind b.length).length := by rw [← hall, List.length_append]
  rw [← hN] at hwh
  rw [hall] at HTO HFL
  obtain ⟨N, hNv⟩ : ∃ N, all.length = N := ⟨_, rfl⟩
  rw [hNv] at hN hwh
  have HFO := Lib.hid (show Sha.fold Sha.starts all = Sha.foldN Sha.starts all (N / 64) by rw [Sha.fold, hNv])
  obtain ⟨n0, hn0⟩ : ∃ n, b.length = n := ⟨_, rfl⟩
  have HALL := Lib.hid (And.intro hall hNv)
  have HN := Lib.hid hn0
  rw [hn0] at hl0 HBH HS0 HSM hN hbl hmp HALL ⊢
  have hnl0 : ¬ (3000 : Int) < (n0 : Int) := by omega
  have hN64 : (N : Int) % 64 = 0 := by omega
  have hN9 : ¬ (N : Int) < (n0 : Int) + 9 := by omega
  have hN72 : ¬ (n0 : Int) + 72 < (N : Int) := by omega
  have HBL := Lib.hid (show (Sha.behind n0).length ≤ 72 by omega)
  have hNm : N ≤ 3072 := by omega
  obtain ⟨S, hSv⟩ : ∃ S, Sha.sum b = S := ⟨_, rfl⟩
  rw [hSv] at HTO HSM HEQ
  have HN64 := Lib.hid hN64
  clear h0 hG hn0 hall hNv hN hbl hmp hwh hSv
  go_enter Tryd.func3, Tryd.ntmps3
  go_upto_region 3 with fail
  go_upto_region 4 with (first
    | (at_builtin; refine wpList_append_b rfl (.tmp 11) (.tmp 12) 22 5 rfl Tryd.underlying22 info_u8 w.heap.size (.slice (some ⟨w.heap.size, 0, none⟩) 0 0) [] (own_none w) rfl _ b (HS0.out.alloc _) rfl (by rw [HN.out]; simp; omega) (by simp) ?_; intro v2 w1 ho hg hn'; have HO1 := Lib.hid ho; have HB1 := Lib.hid (((Below.refl _ w).alloc (Nat.le_refl _) _).grown hg (by simp) (fun k e => by simp only [Value.ownBlock, Option.some.injEq] at e; omega)); clear ho hg hn')
    | (go_at_call 24; refine (HBH.out _).mono ?_; rintro e w2 ⟨v3, rfl, ho, hb⟩; have HO2 := Lib.hid ho; have HO1b := Lib.hid (HO1.out.below hb (Nat.le_refl _)); have HB2 := Lib.hid (HB1.out.trans (hb.mono HB1.out.size)); clear ho hb)
    | (at_builtin; refine wpList_append_b rfl (.tmp 13) (.tmp 16) 22 5 rfl Tryd.underlying22 info_u8 w.heap.size _ _ HO1b.out rfl _ _ HO2.out.sl rfl (by simp; have := HBL.out; have := HN.out; omega) HB2.out.size ?_; intro v4 w3 ho hg hn'; have HO3 := Lib.hid ho; have HB3 := Lib.hid (HB2.out.grown hg HB2.out.size (fun k e => (World.ownsRow.lt HO1b.out k e).1)); clear ho hg hn'))
  rw [List.nil_append, HALL.out.1] at HO3
  obtain ⟨g, cap, rfl, hgb, hgl, hgc, hsa⟩ := HO3.out.form N HALL.out.2 (by omega)
  have HSA := Lib.hid hsa
  have HGL := Lib.hid (And.intro hgb hgl)
  clear HBH HO1 HO2 HO1b HB1 HB2 HO3 hsa hgb hgl
  go_upto_region 7 with (first
    | (go_at_call 25; refine (HST.out _ HB3.out).mono ?_; rintro e w4 ⟨rfl, hb⟩; have HSA4 := Lib.hid (HSA.out.below hb (Nat.le_refl _)); have HB4 := Lib.hid (HB3.out.trans (hb.mono HB3.out.size)); clear hb)
    | (refine wpList_store_row rfl 27 (.tmp 4) (.tmp 38) rfl _ _ rfl rfl _ _ (heap_alloc_new _ _) (HIW.out _ rfl) (by rfl) (words_one _) ?_; rw [World.setRow_alloc_new]))
  obtain ⟨X, hX, hBX, hXs, hX0⟩ := alloc1 w4 (.cells (words Sha.starts) 27)
  rw [hX]
  have hz4 := HB4.out.size
  have HBX := Lib.hid (HB4.out.trans (hBX.mono hz4))
  have HSX := Lib.hid (HSA4.out.below hBX (Nat.le_refl _))
  have HX0 := Lib.hid hX0
  have HOz := Lib.hid (show w.heap.size ≤ w4.heap.size from hz4)
  have HGO := Lib.hid (show g < w4.heap.size from by
    rcases HSA4.out with ⟨⟨_, h⟩, h2⟩ | ⟨b', o', c', h, _, _, h3, _⟩
    · simp only [Value.slice.injEq] at h; omega
    · simp only [Value.slice.injEq, Option.some.injEq, Addr.mk.injEq] at h; omega)
  obtain ⟨O, hO⟩ : ∃ O, w4.heap.size = O := ⟨_, rfl⟩
  rw [hO] at HX0 HOz HGO ⊢
  clear hX hBX hXs hX0 hz4 HB4 HSA4 HST hO HSA HGL HB3
  go_wp2
  go_loopw [5] (fun s wr => ∃ k : Nat, 64 * k ≤ N ∧ s = .int .i64 (64 * (k : Int)) ∧ Hid (wr.heap[O]? = some (.cells (words (Sha.foldN Sha.starts all k)) 27 (0, 0))) ∧ Hid (SlB wr (.slice (some ⟨g, 0, none⟩) N cap) all) ∧ Hid (Below w.heap.size w wr)) (fun s _ => 3200 - (intOf s).toNat)
  case atStart => exact ⟨0, by omega, rfl, HX0, HSX, HBX⟩
  case round =>
    clear HX0 HSX HBX
    obtain ⟨k, hk, rfl, HF, HS, HB⟩ := hrel
    by_cases hlt : 64 * k + 64 ≤ N
    · have hc1 : 64 * (k : Int) + 64 ≤ (N : Int) := by omega
      go_upto_region 11 with fail
      obtain ⟨Y, hY, hBY, hYs, hY0⟩ := alloc1 wr (.cells (bytes (List.replicate 64 0)) 29)
      rw [show wr.alloc (.cells #[.int .u8 0, .int .u8 0, .int .u8 0, .int .u8 0, .int .u8 0, .int .u8 0, .int .u8 0, .int .u8 0, .int .u8 0, .int .u8 0, .int .u8 0, .int .u8 0, .int .u8 0, .int .u8 0, .int .u8 0, .int .u8 0, .int .u8 0, .int .u8 0, .int .u8 0, .int .u8 0, .int .u8 0, .int .u8 0, .int .u8 0, .int .u8 0, .int .u8 0, .int .u8 0, .int .u8 0, .int .u8 0, .int .u8 0, .int .u8 0, .int .u8 0, .int .u8 0, .int .u8 0, .int .u8 0, .int .u8 0, .int .u8 0, .int .u8 0, .int .u8 0, .int .u8 0, .int .u8 0, .int .u8 0, .int .u8 0, .int .u8 0, .int .u8 0, .int .u8 0, .int .u8 0, .int .u8 0, .int .u8 0, .int .u8 0, .int .u8 0, .int .u8 0, .int .u8 0, .int .u8 0, .int .u8 0, .int .u8 0, .int .u8 0, .int .u8 0, .int .u8 0, .int .u8 0, .int .u8 0, .int .u8 0, .int .u8 0, .int .u8 0, .int .u8 0] 29) = Y from hY]
      have hsz := HB.out.size
      have HFY := Lib.hid ((hBY.block O (Array.getElem?_eq_some_iff.1 HF.out).1).trans HF.out)
      have hsy := (HS.out.below hBY (Nat.le_refl _)).drop (64 * k) (by omega)
      rw [Nat.zero_add] at hsy
      have HSY := Lib.hid hsy
      have HBLK := Lib.hid (show (all.drop (64 * k)).take (List.replicate 64 (0 : BitVec 8)).length ++ (List.replicate 64 (0 : BitVec 8)).drop (all.drop (64 * k)).length = Sha.block all k by
        have h1 := HALL.out.2
        have h2 : (List.replicate 64 (0 : BitVec 8)).drop (all.drop (64 * k)).length = [] := List.drop_of_length_le (by rw [List.length_replicate, List.length_drop]; omega)
        rw [h2, List.length_replicate, List.append_nil, Sha.block])
      have HBKL := Lib.hid (Sha.block_length all k (by rw [HALL.out.2]; exact hlt))
      have HBY := Lib.hid (HB.out.trans (hBY.mono hsz))
      have HY0 := Lib.hid hY0
      have hOw : O < wr.heap.size := (Array.getElem?_eq_some_iff.1 HF.out).1
      have hgw : g < wr.heap.size := by have := HGO.out; omega
      have HSY2 := Lib.hid (HS.out.below hBY (Nat.le_refl _))
      obtain ⟨M, hM⟩ : ∃ M, wr.heap.size = M := ⟨_, rfl⟩
      rw [hM] at hOw hgw HY0 hsz ⊢
      have hck : ¬ cap = 64 * k := by omega
      have hi0 : (0 : Int) ≤ (64 * (k : Int)) := by omega
      have hi1 : (64 * (k : Int)) ≤ (N : Int) := by omega
      have hi2 : (64 * (k : Int)).toNat = 64 * k := by omega
      have HYZ := Lib.hid (show w.heap.size ≤ Y.heap.size by have := hBY.size; omega)
      clear hY hBY hYs hY0 hM hsy
      -- REG C BEGIN
      refine wp_region_held_drew (S := fun _ => True) (by kernel_rfl) (trivial) (fun hHeld => ?_)
      refine wpAnyH_take (i := 0) (v := ?v1) rfl (by kernel_rfl) (by kernel_rfl) (by kernel_rfl) (fun _ _ _ h => h) (Or.inl ⟨by rfl, ?y1⟩) (by assumption) ?r1
      case y1 =>
        intro w' hSw
        go_split_ands
        go_simp
        try with_reducible rfl
      try simp only [List.getElem_toArray, List.getElem_cons_zero, List.getElem_cons_succ, Act.put, List.setIfInBounds_toArray, List.set_cons_zero, List.set_cons_succ]
      refine wpAnyH_take (i := 1) (v := ?v2) rfl (by kernel_rfl) (by kernel_rfl) (by kernel_rfl) (fun _ _ _ h => h) (Or.inl ⟨by rfl, ?y2⟩) (by assumption) ?r2
      case y2 =>
        intro w' hSw
        go_split_ands
        go_simp
        try with_reducible rfl
      try simp only [List.getElem_toArray, List.getElem_cons_zero, List.getElem_cons_succ, Act.put, List.setIfInBounds_toArray, List.set_cons_zero, List.set_cons_succ]
      refine wpAnyH_take (i := 2) (v := ?v3) rfl (by kernel_rfl) (by kernel_rfl) (by kernel_rfl) (fun _ _ _ h => h) (Or.inl ⟨by rfl, ?y3⟩) (by assumption) ?r3
      case y3 =>
        intro w' hSw
        go_split_ands
        go_simp
        try with_reducible rfl
      try simp only [List.getElem_toArray, List.getElem_cons_zero, List.getElem_cons_succ, Act.put, List.setIfInBounds_toArray, List.set_cons_zero, List.set_cons_succ]
      refine wpAnyH_take (i := 3) (v := ?v4) rfl (by kernel_rfl) (by kernel_rfl) (by kernel_rfl) (fun _ _ _ h => h) (Or.inl ⟨by rfl, ?y4⟩) (by assumption) ?r4
      case y4 =>
        intro w' hSw
        go_split_ands
        go_simp
        try with_reducible rfl
      try simp only [List.getElem_toArray, List.getElem_cons_zero, List.getElem_cons_succ, Act.put, List.setIfInBounds_toArray, List.set_cons_zero, List.set_cons_succ]
      refine wpAnyH_ready (rs := [4]) (by kernel_rfl) (by simp) ?_
      refine AllReadyH.cons (i := 4) rfl (fun K hK => ?_) AllReadyH.nil
      refine any_of_list (by rfl) (fun Q' hQ' => ?_)
      try simp only [List.getElem_toArray, List.getElem_cons_zero, List.getElem_cons_succ]
      refine wpList_copy_arr rfl (.tmp 46) (.tmp 49) 22 5 rfl Tryd.underlying22 (by kernel_rfl) M 64 64 _ _ rfl rfl HSY.out.drew (List.replicate 64 0) 29 HY0.out rfl ?_
      rw [HBLK.out]
      have HKZ := Lib.hid ((Kept.refl [M] Y.drew).setRow (b := M) (by simp) (bytes (Sha.block all k)))
      have HZF := Lib.hid ((HKZ.out.block O (show O < Y.heap.size from (Array.getElem?_eq_some_iff.1 HFY.out).1) (by simp; omega)).trans HFY.out)
      have HZ0 := Lib.hid (setRow_heap Y.drew _ _ (bytes (Sha.block all k)) _ _ HY0.out)
      have HZS := Lib.hid (HSY2.out.drew.kept HKZ.out (by simp; omega))
      have HZB := Lib.hid (HBY.out.drew.trans (HKZ.out.toBelow (B := w.heap.size) (by simp; omega) HYZ.out))
      generalize Y.drew.setRow M (bytes (Sha.block all k)) = Z at *
      refine hQ' _ _ (hK.out _ _ (trivial) (fun hHeld' => ?_))
      clear hHeld hK K hQ' Q'
      have hHeld := hHeld'
      clear hHeld'
      try simp only [List.getElem_toArray, List.getElem_cons_zero, List.getElem_cons_succ, Act.put, List.setIfInBounds_toArray, List.set_cons_zero, List.set_cons_succ]
      refine wpAnyH_done (by kernel_rfl) ?_ _
      -- REG C END
      go_wp2_with (first
        | (refine wpList_load_row rfl 27 (.tmp 4) rfl O rfl _ _ _ _ HZF.out Tryd.underlying27 rfl (HIW.out _ (HFL.out k)) ?_)
        | (refine wpList_load_row rfl 29 (.tmp 6) rfl M rfl _ _ _ _ HZ0.out Tryd.underlying29 rfl (HIB.out _ HBKL.out) ?_)
        | (go_at_call 26; refine (HMX.out _ _ (HFL.out k) HBKL.out _ HZB.out).mono ?_; rintro e w5 ⟨rfl, hb⟩; rw [show Sha.mix (Sha.foldN Sha.starts all k) (Sha.block all k) = Sha.foldN Sha.starts all (k + 1) from rfl]; have HF5 := Lib.hid ((hb.block O (Array.getElem?_eq_some_iff.1 HZF.out).1).trans HZF.out); have HS5 := Lib.hid (HZS.out.below hb (Nat.le_refl _)); have HB5 := Lib.hid (HZB.out.trans (hb.mono HZB.out.size)); clear hb)
        | (refine wpList_store_row rfl 27 (.tmp 4) (.tmp 53) rfl O _ rfl rfl _ _ HF5.out (HIW.out _ (HFL.out (k + 1))) (by rw [words_size, words_size, HFL.out, HFL.out]) (words_one _) ?_))
      have HK5 := Lib.hid ((Kept.refl [O] w5).setRow (b := O) (by simp) (words (Sha.foldN Sha.starts all (k + 1))))
      exact ⟨⟨k + 1, by omega, by go_num, Lib.hid (setRow_heap _ _ _ _ _ _ HF5.out), Lib.hid (HS5.out.kept HK5.out (by have := HGO.out; simp; omega)), Lib.hid (HB5.out.trans (HK5.out.toBelow (B := w.heap.size) (by have := HOz.out; simp; omega) HB5.out.size))⟩, by simp [intOf]; omega⟩
    · have hk64 : 64 * k = N := by have := HN64.out; omega
      have hke : k = N / 64 := by omega
      rw [hke, ← HFO.out] at HF
      have hc1 : ¬ 64 * (k : Int) + 64 ≤ (N : Int) := by omega
      have HRG := Lib.hid (fun W (hW : Below wr.heap.size wr W) => rng_bel HF.out hW)
      have HIL := Lib.hid (show (Tryd.prog.info? 27).map (·.size) = some (words (Sha.fold Sha.starts all)).toList.length by rw [Array.length_toList]; exact HIW.out _ (by rw [HFO.out]; exact HFL.out _))
      have hq1 := fun x y W => (HEQ.out W).1 x y
      have hq2 := fun W => (HEQ.out W).2
      clear hke hk64
      go_upto_region 13 with fail
      -- REG D BEGIN
      refine wp_region_held_drew (S := fun W => Below wr.heap.size wr W) (by kernel_rfl) ((Below.refl _ wr).drew) (fun hHeld => ?_)
      refine wpAnyH_take (i := 0) (v := ?v5) rfl (by kernel_rfl) (by kernel_rfl) (by kernel_rfl) (fun _ _ _ h => h) (Or.inl ⟨by rfl, ?y5⟩) (by assumption) ?r5
      case y5 =>
        intro w' hSw
        go_split_ands
        go_simp
        try with_reducible rfl
      try simp only [List.getElem_toArray, List.getElem_cons_zero, List.getElem_cons_succ, Act.put, List.setIfInBounds_toArray, List.set_cons_zero, List.set_cons_succ]
      refine wpAnyH_take (i := 2) rfl (by kernel_rfl) (by kernel_rfl) (by kernel_rfl) (fun _ _ _ h => h) (yieldsIf_load_mid (by rfl) 27 (.tmp 4) rfl _ _ rfl ((words (Sha.fold Sha.starts all)).toList) _ (fun _ h => HRG.out _ h) Tryd.underlying27 rfl (HIL.out)) (by assumption) ?_
      try simp only [List.getElem_toArray, List.getElem_cons_zero, List.getElem_cons_succ, Act.put, List.setIfInBounds_toArray, List.set_cons_zero, List.set_cons_succ]
      refine wpAnyH_ready (rs := [1]) (by kernel_rfl) (by simp) ?_
      refine AllReadyH.cons (i := 1) rfl (fun K hK => ?_) AllReadyH.nil
      go_simp
      go_at_call 27
      refine (HSM.out _ (HB.out.trans ((Below.refl _ wr).drew.mono HB.out.size))).mono ?_
      rintro e w6 ⟨rfl, hb⟩
      have HB6 := Lib.hid (show Below wr.heap.size wr w6 from (Below.refl _ wr).drew.trans hb)
      clear hb
      refine hK.out _ _ (HB6.out) (fun hHeld' => ?_)
      clear hHeld hK K
      have hHeld := hHeld'
      clear hHeld'
      try simp only [List.getElem_toArray, List.getElem_cons_zero, List.getElem_cons_succ, Act.put, List.setIfInBounds_toArray, List.set_cons_zero, List.set_cons_succ]
      refine wpAnyH_ready (rs := [3]) (by kernel_rfl) (by simp) ?_
      refine AllReadyH.cons (i := 3) rfl (fun K hK => ?_) AllReadyH.nil
      go_simp
      go_at_call 28
      refine (HTO.out _).mono ?_
      rintro e w7 ⟨rfl, hb⟩
      have HB7 := Lib.hid (HB6.out.trans (hb.mono HB6.out.size))
      clear hb
      refine hK.out _ _ (HB7.out) (fun hHeld' => ?_)
      clear hHeld hK K
      have hHeld := hHeld'
      clear hHeld'
      try simp only [List.getElem_toArray, List.getElem_cons_zero, List.getElem_cons_succ, Act.put, List.setIfInBounds_toArray, List.set_cons_zero, List.set_cons_succ]
      refine wpAnyH_take (i := 4) (v := ?v6) rfl (by kernel_rfl) (by kernel_rfl) (by kernel_rfl) (fun _ _ _ h => h) (Or.inl ⟨by rfl, ?y6⟩) (by assumption) ?r6
      case y6 =>
        intro w' hSw
        go_split_ands
        go_simp
        try with_reducible rfl
      try simp only [List.getElem_toArray, List.getElem_cons_zero, List.getElem_cons_succ, Act.put, List.setIfInBounds_toArray, List.set_cons_zero, List.set_cons_succ]
      refine wpAnyH_take (i := 5) (v := ?v7) rfl (by kernel_rfl) (by kernel_rfl) (by kernel_rfl) (fun _ _ _ h => h) (Or.inl ⟨by rfl, ?y7⟩) (by assumption) ?r7
      case y7 =>
        intro w' hSw
        go_split_ands
        go_simp
        try with_reducible rfl
      try simp only [List.getElem_toArray, List.getElem_cons_zero, List.getElem_cons_succ, Act.put, List.setIfInBounds_toArray, List.set_cons_zero, List.set_cons_succ]
      refine wpAnyH_ready (rs := [6]) (by kernel_rfl) (by simp) ?_
      refine AllReadyH.cons (i := 6) rfl (fun K hK => ?_) AllReadyH.nil
      go_simp
      go_at_call 23
      refine (HAW.out _ (HB.out.trans (HB7.out.mono HB.out.size))).mono ?_
      rintro e w9 ⟨rfl, hb⟩
      have HB9 := Lib.hid (HB7.out.trans (hb.mono HB7.out.size))
      clear hb
      refine hK.out _ _ (HB9.out) (fun hHeld' => ?_)
      clear hHeld hK K
      have hHeld := hHeld'
      clear hHeld'
      try simp only [List.getElem_toArray, List.getElem_cons_zero, List.getElem_cons_succ, Act.put, List.setIfInBounds_toArray, List.set_cons_zero, List.set_cons_succ]
      refine wpAnyH_take (i := 7) (v := ?v8) rfl (by kernel_rfl) (by kernel_rfl) (by kernel_rfl) (fun _ _ _ h => h) (Or.inl ⟨by rfl, ?y8⟩) (by assumption) ?r8
      case y8 =>
        intro w' hSw
        go_split_ands
        go_simp
        try with_reducible rfl
      try simp only [List.getElem_toArray, List.getElem_cons_zero, List.getElem_cons_succ, Act.put, List.setIfInBounds_toArray, List.set_cons_zero, List.set_cons_succ]
      refine wpAnyH_take (i := 8) (v := ?v9) rfl (by kernel_rfl) (by kernel_rfl) (by kernel_rfl) (fun _ _ _ h => h) (Or.inl ⟨by rfl, ?y9⟩) (by assumption) ?r9
      case y9 =>
        intro w' hSw
        go_split_ands
        go_simp
        try with_reducible rfl
      try simp only [List.getElem_toArray, List.getElem_cons_zero, List.getElem_cons_succ, Act.put, List.setIfInBounds_toArray, List.set_cons_zero, List.set_cons_succ]
      refine wpAnyH_done (by kernel_rfl) ?_ _
      -- REG D END
      go_wp2
      go_ret
      exact ⟨rfl, HB.out.trans (HB9.out.mono HB.out.size)⟩
theorem law_shaFolds {w : World} (v0 : Value) (b : List (BitVec 8)) (h0 : SlB w v0 b) (hG : Glob w) :
    Calls Tryd.prog 3 #[v0] w fun e w' => e = .returned (.bool true) ∧ Below w.heap.size w w' := by
  by_cases hl : 3000 < b.length
  · exact law_shaFolds_long b v0 w h0 hl hG
  · exact law_shaFolds_ok b v0 w h0 (by omega) hG
end Go.Proofs.YtnoilogepkelaaaDoor
