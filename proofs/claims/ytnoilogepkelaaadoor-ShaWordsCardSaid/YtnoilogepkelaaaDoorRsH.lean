/-
  The document's sha: Mix, fold.
-/
import Derived.Test.YtnoilogepkelaaaDoorRsG
import Derived.Test.YtnoilogepkelaaaDoorRsT
import Derived.Test.YtnoilogepkelaaaDoorLibC
namespace Go.Proofs.YtnoilogepkelaaaDoor
set_option linter.unusedVariables false
set_option linter.unusedSimpArgs false
open Go Go.RowKit

set_option maxRecDepth 100000 in
set_option maxHeartbeats 1000000 in
theorem rMix_any (ws : List (BitVec 32)) (b : List (BitVec 8)) (hw : ws.length = 8) (hb : b.length = 64) (v : Value) (w : World) (hs : SlB w v b) :
    Calls Tryd.prog 31 #[.agg (words ws), v] w fun e w' => e = .returned (.agg (words (Sha.mix ws b))) ∧ Below w.heap.size w w' := by
  have HM := Lib.hid (fun va W (ha : SlW W va Sha.adds) (hB : Below w.heap.size w W) => rmix_any ws b hw hb v va W (hs.below hB (Nat.le_refl _)) ha)
  have HA := Lib.hid (fun W => radds_any W)
  have HIW := Lib.hid (fun (xs : List (BitVec 32)) (h : xs.length = 8) => (show (Tryd.prog.info? 26).map (·.size) = some (words xs).size by rw [words_size, h]; kernel_rfl))
  have HW := Lib.hid hw
  have HML := Lib.hid (Sha.mix_length ws b hw)
  obtain ⟨M, hM⟩ : ∃ M, Sha.mix ws b = M := ⟨_, rfl⟩
  rw [hM] at HM HML ⊢
  obtain ⟨wb, hwb⟩ : ∃ wb, words ws = wb := ⟨_, rfl⟩
  rw [hwb] at HM ⊢
  have HI8 := Lib.hid (show (Tryd.prog.info? 26).map (·.size) = some wb.size by rw [← hwb]; exact HIW.out _ hw)
  clear hs hw hM hwb
  go_enter Tryd.func31, Tryd.ntmps31
  go_upto_region 1 with fail
  obtain ⟨X, hX, hBX, hXs, hX0, hX1⟩ := alloc2 w (.cells wb 26) (.cells (words (List.replicate 8 0)) 26)
  rw [show (w.alloc (.cells wb 26)).alloc (.cells #[.int .u32 0, .int .u32 0, .int .u32 0, .int .u32 0, .int .u32 0, .int .u32 0, .int .u32 0, .int .u32 0] 26) = X from hX]
  have HX := Lib.hid (And.intro hBX (And.intro hXs (And.intro hX0 hX1)))
  have hzx : w.heap.size + 1 < X.heap.size := by omega
  clear hX hBX hXs hX0 hX1
  have HRG := Lib.hid (fun W (hW : Kept [w.heap.size + 1] X W) => rng_of_row W w.heap.size _ _ _ ((hW.block w.heap.size (by omega) (by simp)).trans HX.out.2.2.1))
  have HIL := Lib.hid (show (Tryd.prog.info? 26).map (·.size) = some wb.toList.length by rw [Array.length_toList]; exact HI8.out)
  -- REG M BEGIN
  refine wp_region_held_drew (S := fun W => Kept [w.heap.size + 1] X W) (by kernel_rfl) ((Kept.refl _ X).drew) (fun hHeld => ?_)
  refine wpAnyH_take (i := 0) rfl (by kernel_rfl) (by kernel_rfl) (by kernel_rfl) (fun _ _ _ h => h) (yieldsIf_load_mid (by rfl) 26 (.tmp 2) rfl _ _ rfl (wb.toList) _ (fun _ h => HRG.out _ h) Tryd.underlying26 rfl (HIL.out)) (by assumption) ?_
  try simp only [List.getElem_toArray, List.getElem_cons_zero, List.getElem_cons_succ, Act.put, List.setIfInBounds_toArray, List.set_cons_zero, List.set_cons_succ]
  refine wpAnyH_take (i := 1) (v := ?v1) rfl (by kernel_rfl) (by kernel_rfl) (by kernel_rfl) (fun _ _ _ h => h) (Or.inl ⟨by rfl, ?y1⟩) (by assumption) ?r1
  case y1 =>
    intro w' hSw
    go_split_ands
    go_simp
    try with_reducible rfl
  try simp only [List.getElem_toArray, List.getElem_cons_zero, List.getElem_cons_succ, Act.put, List.setIfInBounds_toArray, List.set_cons_zero, List.set_cons_succ]
  refine wpAnyH_ready (rs := [2]) (by kernel_rfl) (by simp) ?_
  refine AllReadyH.cons (i := 2) rfl (fun K hK => ?_) AllReadyH.nil
  go_simp
  go_at_call 68
  refine (HA.out _).mono ?_
  rintro e w1 ⟨v1, rfl, ho, hb⟩
  have HO1 := Lib.hid ho.sl
  have HB1 := Lib.hid (show Below X.heap.size X w1 from (Below.refl _ X).drew.trans hb)
  clear ho hb
  refine hK.out _ _ (Kept.ofBelow HB1.out (Nat.le_refl _)) (fun hHeld' => ?_)
  clear hHeld hK K
  have hHeld := hHeld'
  clear hHeld'
  try simp only [List.getElem_toArray, List.getElem_cons_zero, List.getElem_cons_succ, Act.put, List.setIfInBounds_toArray, List.set_cons_zero, List.set_cons_succ]
  refine wpAnyH_ready (rs := [3]) (by kernel_rfl) (by simp) ?_
  refine AllReadyH.cons (i := 3) rfl (fun K hK => ?_) AllReadyH.nil
  go_simp
  go_at_call 67
  refine (HM.out _ _ HO1.out (HX.out.1.trans (HB1.out.mono HX.out.1.size))).mono ?_
  rintro e w2 ⟨rfl, hb⟩
  have HB2 := Lib.hid (HB1.out.trans (hb.mono HB1.out.size))
  have HO2 := Lib.hid ((HB2.out.block (w.heap.size + 1) hzx).trans HX.out.2.2.2)
  clear hb
  refine hK.out _ _ (Kept.ofBelow HB2.out (Nat.le_refl _)) (fun hHeld' => ?_)
  clear hHeld hK K
  have hHeld := hHeld'
  clear hHeld'
  try simp only [List.getElem_toArray, List.getElem_cons_zero, List.getElem_cons_succ, Act.put, List.setIfInBounds_toArray, List.set_cons_zero, List.set_cons_succ]
  refine wpAnyH_ready (rs := [4]) (by kernel_rfl) (by simp) ?_
  refine AllReadyH.cons (i := 4) rfl (fun K hK => ?_) AllReadyH.nil
  refine any_of_list (by rfl) (fun Q' hQ' => ?_)
  try simp only [List.getElem_toArray, List.getElem_cons_zero, List.getElem_cons_succ]
  refine wpList_store_row rfl 26 (.tmp 4) (.tmp 8) rfl (w.heap.size + 1) _ rfl rfl _ _ HO2.out (HIW.out _ HML.out) (by rw [words_size, words_size, HML.out]; rfl) (words_one _) ?_
  refine hQ' _ _ (hK.out _ _ ((Kept.ofBelow HB2.out (Nat.le_refl _)).setRow (by simp) _) (fun hHeld' => ?_))
  clear hHeld hK K hQ' Q'
  have hHeld := hHeld'
  clear hHeld'
  try simp only [List.getElem_toArray, List.getElem_cons_zero, List.getElem_cons_succ, Act.put, List.setIfInBounds_toArray, List.set_cons_zero, List.set_cons_succ]
  refine wpAnyH_done (by kernel_rfl) ?_ _
  -- REG M END
  go_wp2
  have hb2 := HX.out.1.trans (HB2.out.mono HX.out.1.size)
  exact bodyPost_ret (results_cell_row Tryd.results31 _ _ (w.heap.size + 1) _ _ _ _ rfl (setRow_heap _ _ _ _ _ _ HO2.out) Tryd.underlying26 rfl (HIW.out _ HML.out)) rfl ⟨rfl, hb2.trans (((Kept.refl [w.heap.size + 1] w2).setRow (by simp) _).toBelow (B := w.heap.size) (by simp) hb2.size)⟩

theorem Rsh.list8 (xs : List (BitVec 32)) (h : xs.length = 8) : ∃ a b c d e f g i, xs = [a, b, c, d, e, f, g, i] := by
  match xs, h with
  | [a, b, c, d, e, f, g, i], _ => exact ⟨a, b, c, d, e, f, g, i, rfl⟩
set_option maxRecDepth 100000 in
set_option maxHeartbeats 4000000 in
theorem rfold_any (ws : List (BitVec 32)) (b : List (BitVec 8)) (hw : ws.length = 8) (hm : b.length % 64 = 0) (hl : b.length ≤ 100000000) (v : Value) (w : World) (hs : SlB w v b) :
    Calls Tryd.prog 70 #[.agg (words ws), v] w fun e w' => e = .returned (.agg (words (Sha.fold ws b))) ∧ Below w.heap.size w w' := by
  obtain ⟨a, cap, rfl⟩ := hs.len
  have hcap := hs.bounds.2
  have HS := Lib.hid hs
  have HA := Lib.hid (fun W => radds_any W)
  have HM := Lib.hid (fun xs blk (h1 : xs.length = 8) (h2 : blk.length = 64) v va W (h3 : SlB W v blk) (h4 : SlW W va Sha.adds) => rmix_any xs blk h1 h2 v va W h3 h4)
  have HIW := Lib.hid (fun (xs : List (BitVec 32)) (h : xs.length = 8) => (show (Tryd.prog.info? 26).map (·.size) = some (words xs).size by rw [words_size, h]; kernel_rfl))
  have HFL := Lib.hid (fun k => Sha.foldN_length ws b k hw)
  have HF0 := Lib.hid (show Sha.foldN ws b 0 = ws from rfl)
  have HFS := Lib.hid (fun k => (show Sha.foldN ws b (k + 1) = Sha.mix (Sha.foldN ws b k) (Sha.block b k) from rfl))
  have HFF := Lib.hid (show Sha.fold ws b = Sha.foldN ws b (b.length / 64) from rfl)
  have HBK := Lib.hid (fun k h => Sha.block_length b k h)
  obtain ⟨N, hN⟩ : ∃ N, b.length = N := ⟨_, rfl⟩
  rw [hN] at HS HFF HBK hm hl hcap ⊢
  obtain ⟨R, hR⟩ : ∃ R, Sha.fold ws b = R := ⟨_, rfl⟩
  rw [hR] at HFF ⊢
  obtain ⟨wb, hwb⟩ : ∃ wb, words ws = wb := ⟨_, rfl⟩
  rw [hwb]
  have HWB := Lib.hid hwb
  clear hs hw hN hR hwb
  go_enter Tryd.func70, Tryd.ntmps70
  go_upto_region 1 with fail
  obtain ⟨X, hX, hBX, hXs, hX0, hX1⟩ := alloc2 w (.cells wb 26) (.cells (words (List.replicate 8 0)) 26)
  rw [show (w.alloc (.cells wb 26)).alloc (.cells #[.int .u32 0, .int .u32 0, .int .u32 0, .int .u32 0, .int .u32 0, .int .u32 0, .int .u32 0, .int .u32 0] 26) = X from hX]
  have HX := Lib.hid (And.intro hBX (And.intro hXs (And.intro hX0 hX1)))
  clear hX hBX hXs hX0 hX1
  go_upto_region 2 with (go_at_call 68; refine (HA.out _).mono ?_; rintro e w1 ⟨v1, rfl, ho, hb⟩; have HO1 := Lib.hid ho; have HB1 := Lib.hid hb; clear ho hb)
  obtain ⟨g, gc, rfl, hgb, hgl, hgc, hsl⟩ := HO1.out.form 64 rfl (by omega)
  have hxs := HX.out.2.1
  have HI := Lib.hid (show w1.heap[w.heap.size]? = some (.cells (words (Sha.foldN ws b 0)) 26 (0, 0)) ∧ w1.heap[w.heap.size + 1]? = some (.cells (words (List.replicate 8 0)) 26 (0, 0)) ∧ SlW w1 (.slice (some ⟨g, 0, none⟩) 64 gc) Sha.adds ∧ Below w.heap.size w w1 from
    ⟨by rw [HF0.out, HWB.out]; exact (HB1.out.block w.heap.size (by omega)).trans HX.out.2.2.1, (HB1.out.block (w.heap.size + 1) (by omega)).trans HX.out.2.2.2, hsl, HX.out.1.trans (HB1.out.mono (by omega))⟩)
  have hgw : w.heap.size + 1 < g := by omega
  clear hsl HO1 HB1 HX hgb hgl hxs
  go_wp2
  go_loopw [6] (fun s6 wr => ∃ k : Nat, 64 * k ≤ N ∧ s6 = .int .i64 (64 * (k : Int)) ∧ Hid (wr.heap[w.heap.size]? = some (.cells (words (Sha.foldN ws b k)) 26 (0, 0)) ∧ wr.heap[w.heap.size + 1]? = some (.cells (words (List.replicate 8 0)) 26 (0, 0)) ∧ SlW wr (.slice (some ⟨g, 0, none⟩) 64 gc) Sha.adds ∧ Below w.heap.size w wr)) (fun s6 _ => N + 64 - (intOf s6).toNat)
  case atStart => exact ⟨0, by omega, rfl, HI⟩
  case round =>
    clear HI
    obtain ⟨k, hk, rfl, HI⟩ := hrel
    by_cases hlt : 64 * k + 64 ≤ N
    · have hc1 : 64 * (k : Int) + 64 ≤ (N : Int) := by omega
      obtain ⟨b1, o1, k1, e1, _, _⟩ := (HS.out.below HI.out.2.2.2 (Nat.le_refl _)).open_ N (by have := HS.out.bounds.1; omega) (by omega)
      simp only [Value.slice.injEq] at e1
      obtain ⟨rfl, _, rfl⟩ := e1
      have hsb := ((HS.out.below HI.out.2.2.2 (Nat.le_refl _)).drop (64 * k) (by omega)).take 64 (by omega)
      rw [show (b.drop (64 * k)).take 64 = Sha.block b k from rfl] at hsb
      have HSB := Lib.hid hsb
      have hck : ¬ cap = 64 * k := by omega
      have hi0 : (0 : Int) ≤ 64 * (k : Int) := by omega
      have hi1 : 64 * (k : Int) ≤ (N : Int) := by omega
      have hi2 : (64 * (k : Int)).toNat = 64 * k := by omega
      have hi3 : (64 * (k : Int) + 64).toNat - 64 * k = 64 := by omega
      have hi4 : 64 * (k : Int) ≤ 64 * (k : Int) + 64 := by omega
      have hi5 : 64 * (k : Int) + 64 ≤ (cap : Int) := by omega
      have hi6 : IntKind.i64.wrap (64 * (k : Int) + 64) = 64 * (k : Int) + 64 := by rw [IntKind.wrap_i64]; omega
      clear hsb
      obtain ⟨x0, x1, x2, x3, x4, x5, x6, x7, hx8⟩ := Rsh.list8 _ (HFL.out k)
      have hI1 := HI.out.1
      rw [hx8] at hI1
      have c0 : wr.cell? ⟨w.heap.size, 0, none⟩ = some (.int .u32 (wv x0)) := cell_of_row wr w.heap.size 0 _ _ _ hI1
      have c1 : wr.cell? ⟨w.heap.size, 1, none⟩ = some (.int .u32 (wv x1)) := cell_of_row wr w.heap.size 1 _ _ _ hI1
      have c2 : wr.cell? ⟨w.heap.size, 2, none⟩ = some (.int .u32 (wv x2)) := cell_of_row wr w.heap.size 2 _ _ _ hI1
      have c3 : wr.cell? ⟨w.heap.size, 3, none⟩ = some (.int .u32 (wv x3)) := cell_of_row wr w.heap.size 3 _ _ _ hI1
      have c4 : wr.cell? ⟨w.heap.size, 4, none⟩ = some (.int .u32 (wv x4)) := cell_of_row wr w.heap.size 4 _ _ _ hI1
      have c5 : wr.cell? ⟨w.heap.size, 5, none⟩ = some (.int .u32 (wv x5)) := cell_of_row wr w.heap.size 5 _ _ _ hI1
      have c6 : wr.cell? ⟨w.heap.size, 6, none⟩ = some (.int .u32 (wv x6)) := cell_of_row wr w.heap.size 6 _ _ _ hI1
      have c7 : wr.cell? ⟨w.heap.size, 7, none⟩ = some (.int .u32 (wv x7)) := cell_of_row wr w.heap.size 7 _ _ _ hI1
      have hm8 := HM.out _ _ (HFL.out k) (HBK.out k hlt) _ _ wr.drew HSB.out.drew HI.out.2.2.1
      rw [← HFS.out, hx8, show words [x0, x1, x2, x3, x4, x5, x6, x7] = #[.int .u32 (wv x0), .int .u32 (wv x1), .int .u32 (wv x2), .int .u32 (wv x3), .int .u32 (wv x4), .int .u32 (wv x5), .int .u32 (wv x6), .int .u32 (wv x7)] from rfl] at hm8
      have HM8 := Lib.hid hm8
      clear hI1 hx8 hm8
      go_upto_region 5 with fail
      go_still_tail 7, (by kernel_rfl)
      go_wp2_with (first
        | (go_at_call 67; refine HM8.out.mono ?_; rintro e w2 ⟨rfl, hb⟩; have HB2 := Lib.hid (show Below wr.heap.size wr w2 from (Below.refl _ wr).drew.trans hb); have HW2 := Lib.hid (((show Below wr.heap.size wr w2 from (Below.refl _ wr).drew.trans hb).block w.heap.size (Array.getElem?_eq_some_iff.1 HI.out.1).1).trans HI.out.1); clear hb)
        | (refine wpList_store_row rfl 26 (.tmp 2) (.tmp 22) rfl w.heap.size _ rfl rfl _ _ HW2.out (HIW.out _ (HFL.out (k + 1))) (by rw [words_size, words_size, HFL.out, HFL.out]) (words_one _) ?_))
      clear c0 c1 c2 c3 c4 c5 c6 c7
      have hz2 := (Array.getElem?_eq_some_iff.1 HI.out.2.1).1
      have hK := (Kept.refl [w.heap.size] w2).setRow (b := w.heap.size) (by simp) (words (Sha.foldN ws b (k + 1)))
      have h2 := HB2.out.size
      have HN := Lib.hid (show (w2.setRow w.heap.size (words (Sha.foldN ws b (k + 1)))).heap[w.heap.size]? = some (.cells (words (Sha.foldN ws b (k + 1))) 26 (0, 0)) ∧ (w2.setRow w.heap.size (words (Sha.foldN ws b (k + 1)))).heap[w.heap.size + 1]? = some (.cells (words (List.replicate 8 0)) 26 (0, 0)) ∧ SlW (w2.setRow w.heap.size (words (Sha.foldN ws b (k + 1)))) (.slice (some ⟨g, 0, none⟩) 64 gc) Sha.adds ∧ Below w.heap.size w (w2.setRow w.heap.size (words (Sha.foldN ws b (k + 1)))) from
        ⟨setRow_heap _ _ _ _ _ _ HW2.out, (hK.block _ (by omega) (by simp)).trans ((HB2.out.block _ hz2).trans HI.out.2.1), (HI.out.2.2.1.below HB2.out (Nat.le_refl _)).keptR hK (by intro k hk; simp [Value.ownBlock] at hk; omega), (HI.out.2.2.2.trans (HB2.out.mono HI.out.2.2.2.size)).trans (hK.toBelow (by simp) (by have := HI.out.2.2.2.size; omega))⟩)
      clear hK h2 hz2
      exact ⟨⟨k + 1, by omega, by go_num, HN⟩, by simp [intOf]; omega⟩
    · have hke : k = N / 64 := by omega
      rw [hke, ← HFF.out] at HI
      have hc1 : ¬ 64 * (k : Int) + 64 ≤ (N : Int) := by omega
      have HRL := Lib.hid (show R.length = 8 by rw [HFF.out]; exact HFL.out _)
      clear hke
      go_wp2_with (first
        | (refine wpList_load_row rfl 26 (.tmp 2) rfl w.heap.size rfl _ _ _ _ HI.out.1 Tryd.underlying26 rfl (HIW.out _ HRL.out) ?_)
        | (refine wpList_store_row rfl 26 (.tmp 4) (.tmp 23) rfl (w.heap.size + 1) _ rfl rfl _ _ HI.out.2.1 (HIW.out _ HRL.out) (by rw [words_size, words_size, HRL.out]; rfl) (words_one _) ?_))
      exact bodyPost_ret (results_cell_row Tryd.results70 _ _ (w.heap.size + 1) _ _ _ _ rfl (setRow_heap _ _ _ _ _ _ HI.out.2.1) Tryd.underlying26 rfl (HIW.out _ HRL.out)) rfl ⟨rfl, HI.out.2.2.2.trans (((Kept.refl [w.heap.size + 1] wr).setRow (by simp) _).toBelow (B := w.heap.size) (by simp) HI.out.2.2.2.size)⟩
end Go.Proofs.YtnoilogepkelaaaDoor
