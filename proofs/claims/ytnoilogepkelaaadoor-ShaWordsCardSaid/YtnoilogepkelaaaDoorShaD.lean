/-
  sha.Sum: the digest of any bytes.
-/
import Derived.Test.YtnoilogepkelaaaDoorShaF
import Derived.Test.YtnoilogepkelaaaDoorShaB
import Derived.Test.YtnoilogepkelaaaDoorShaC
import Derived.Test.YtnoilogepkelaaaDoorLibs
import Derived.Test.YtnoilogepkelaaaDoorAny
namespace Go.Proofs.YtnoilogepkelaaaDoor
set_option linter.unusedVariables false
set_option linter.unusedSimpArgs false
open Go Go.RowKit
theorem any_store_at {P : Program} {ops : Array Oper} {o : Oper} {a : Act} {w : World} {K : Act → World → Prop} {Q : Exit → Act → World → Prop} {E : Prop} (hgd : o.guard = none) (ty : TypeId) (x y : Operand) (ho : o.op = .store ty x y)
    (p : Addr) (v : Value) (w' : World) (hx : a.eval x = .pointer (some p)) (hy : a.eval y = v) (hl : (storeVar ty p v).run P w = .ok () w')
    (h : K (a.put o.dst undef) w') : if Region.wanted o (yielded ops a.tmps) = true then Oper.wp P o a w K Q else E := by
  have hw : Region.wanted o (yielded ops a.tmps) = true := by simp [Region.wanted, hgd]
  rw [if_pos hw]
  unfold Oper.wp execOp
  simp only [ho, hx, hy, Instr.storeAt, Instr.sureAddr, Sem.run_bind, Sem.run_pure, Result.andThen_ok, hl]
  exact h

set_option maxRecDepth 100000 in
set_option maxHeartbeats 4000000 in
theorem sum_any (b : List (BitVec 8)) (v : Value) (w : World) (hs : SlB w v b) (hl : b.length ≤ 50000000) (hG : Glob w) :
    Calls Tryd.prog 27 #[v] w fun e w' => e = .returned (.agg (bytes (Sha.sum b))) ∧ Below w.heap.size w w' := by
  obtain ⟨a, cap, rfl⟩ := hs.len
  have hbl := Sha.behind_length b.length
  have hmp := Sha.many_pos b.length
  have hsz := hG.size
  have HBH := Lib.hid (fun W => behind_any b.length (by omega) W)
  have HLB := Lib.hid (show b.length + (Sha.behind b.length).length ≤ 500000000 by omega)
  have HFO := Lib.hid (fun v5 w5 h5 hg => fold_any Sha.starts rfl (b ++ Sha.behind b.length) v5 w5 h5 (by rw [List.length_append]; omega) (by rw [List.length_append]; omega) (by rw [List.length_append]; exact Sha.behind_whole _) hg)
  have HTO := Lib.hid (fun W => told_any (Sha.fold Sha.starts (b ++ Sha.behind b.length)) (Sha.foldN_length _ _ _ rfl) W)
  have HIT := Lib.hid (show (Tryd.prog.info? 27).map (·.size) = some (words Sha.starts).toList.length by kernel_rfl)
  have HIH := Lib.hid (fun (xs : List (BitVec 8)) (h : xs.length = 32) => (show (Tryd.prog.info? 32).map (·.size) = some (bytes xs).size by rw [bytes_size, h]; kernel_rfl))
  obtain ⟨X, hX, hBX, hXs, hX0⟩ := alloc1 w (.cells (bytes (List.replicate 32 0)) 32)
  have hX' : w.alloc (.cells #[.int .u8 0, .int .u8 0, .int .u8 0, .int .u8 0, .int .u8 0, .int .u8 0, .int .u8 0, .int .u8 0, .int .u8 0, .int .u8 0, .int .u8 0, .int .u8 0, .int .u8 0, .int .u8 0, .int .u8 0, .int .u8 0, .int .u8 0, .int .u8 0, .int .u8 0, .int .u8 0, .int .u8 0, .int .u8 0, .int .u8 0, .int .u8 0, .int .u8 0, .int .u8 0, .int .u8 0, .int .u8 0, .int .u8 0, .int .u8 0, .int .u8 0, .int .u8 0] 32) = X := hX
  obtain ⟨ts, frs, hst⟩ := (hG.below hBX (by omega)).starts
  have HRN := Lib.hid (fun W (hW : Below X.heap.size X W) => rng_below (rng_of_row X 0 _ _ _ hst) hW (by omega))
  have HGX := Lib.hid (fun W (hW : Below X.heap.size X W) => (hG.below hBX (by omega)).below hW (by omega))
  have HSV := Lib.hid (fun W (hW : Below X.heap.size X W) => (hs.below hBX (Nat.le_refl _)).below hW (Nat.le_refl _))
  have HOU := Lib.hid (fun W (hW : Below X.heap.size X W) => (show (storeVar 32 ⟨w.heap.size, 0, none⟩ (.agg (bytes (Sha.sum b)))).run Tryd.prog W = .ok () (W.setRow w.heap.size (bytes (Sha.sum b))) ∧
      (W.setRow w.heap.size (bytes (Sha.sum b))).rangeAt 0 0 (words Sha.starts).toList ∧ Below w.heap.size w (W.setRow w.heap.size (bytes (Sha.sum b))) ∧ (W.setRow w.heap.size (bytes (Sha.sum b))).heap[w.heap.size]? = some (.cells (bytes (Sha.sum b)) 32 (0, 0)) by
    have h1 := (hW.block w.heap.size (by omega)).trans hX0
    have hb2 : Below w.heap.size w (W.setRow w.heap.size (bytes (Sha.sum b))) := (((Kept.refl [w.heap.size] W).setRow (by simp) _).toBelow (B := w.heap.size) (by simp) (by have := hW.size; omega)) |> (hBX.trans (hW.mono (by omega))).trans
    refine ⟨run_storeVar_row W w.heap.size _ _ _ _ h1 (HIH.out _ (Sha.sum_length b)) (by rw [bytes_size, bytes_size, Sha.sum_length]; rfl) (bytes_one _), ?_, hb2, setRow_heap _ _ _ _ _ _ h1⟩
    obtain ⟨ts, frs, hst2⟩ := (hG.below hb2 (by omega)).starts
    exact rng_of_row _ 0 _ _ _ hst2))
  have HX' := Lib.hid hX'
  have HSZ := Lib.hid (And.intro hXs hsz)
  clear hbl hmp hX hX' hBX hXs hX0 hst hs hG hsz hl
  go_enter Tryd.func27, Tryd.ntmps27
  go_upto_region 1 with fail
  rw [HX'.out]
  -- SUM BEGIN
  refine wp_region_held_drew (S := fun w' => w'.rangeAt 0 0 (words Sha.starts).toList) (by kernel_rfl) (HRN.out X.drew (Below.refl _ _).drew) (fun hHeld => ?_)
  refine wpAnyH_take (i := 0) rfl (by kernel_rfl) (by kernel_rfl) (by kernel_rfl) (fun _ _ _ h => h) (yieldsIf_load_mid (by rfl) 27 (.global 0) rfl _ _ rfl (words Sha.starts).toList _ (fun _ h => h) Tryd.underlying27 rfl HIT.out) (by assumption) ?_
  try simp only [List.getElem_toArray, List.getElem_cons_zero, List.getElem_cons_succ, Act.put, List.setIfInBounds_toArray, List.set_cons_zero, List.set_cons_succ]
  refine wpAnyH_take (i := 1) (v := ?v1) rfl (by kernel_rfl) (by kernel_rfl) (by kernel_rfl) (fun _ _ _ h => h) (Or.inl ⟨by rfl, ?y1⟩) (by assumption) ?r1
  case y1 =>
    intro w' hSw
    go_split_ands
    go_simp
    try with_reducible rfl
  try simp only [List.getElem_toArray, List.getElem_cons_zero, List.getElem_cons_succ, Act.put, List.setIfInBounds_toArray, List.set_cons_zero, List.set_cons_succ]
  refine wpAnyH_take (i := 2) (v := ?v2) rfl (by kernel_rfl) (by kernel_rfl) (by kernel_rfl) (fun _ _ _ h => h) (Or.inl ⟨by rfl, ?y2⟩) (by assumption) ?r2
  case y2 =>
    intro w' hSw
    go_split_ands
    go_simp
    try with_reducible rfl
  try simp only [List.getElem_toArray, List.getElem_cons_zero, List.getElem_cons_succ, Act.put, List.setIfInBounds_toArray, List.set_cons_zero, List.set_cons_succ]
  refine wpAnyH_take (i := 3) (v := ?v3) rfl (by kernel_rfl) (by kernel_rfl) (by kernel_rfl) (fun _ _ _ h => h) (Or.inl ⟨by rfl, ?y3⟩) (by assumption) ?r3
  case y3 =>
    intro w' hSw
    go_split_ands
    go_simp
    try with_reducible rfl
  try simp only [List.getElem_toArray, List.getElem_cons_zero, List.getElem_cons_succ, Act.put, List.setIfInBounds_toArray, List.set_cons_zero, List.set_cons_succ]
  refine wpAnyH_ready (rs := [4]) (by kernel_rfl) (by simp) ?_
  refine AllReadyH.cons (i := 4) rfl (fun K hK => ?_) AllReadyH.nil
  go_simp
  go_at_call 24
  refine (HBH.out X.drew).mono ?_
  rintro e w3 ⟨v3, rfl, ho3, hb3⟩
  obtain ⟨a3, cap3, rfl⟩ := ho3.sl.len
  have HO3 := Lib.hid ho3
  have HB3 := Lib.hid (show Below X.heap.size X w3 from (Below.refl _ X).drew.trans hb3)
  clear ho3 hb3
  refine hK.out _ _ (HRN.out _ HB3.out) (fun hHeld' => ?_)
  clear hHeld hK K
  have hHeld := hHeld'
  clear hHeld'
  try simp only [List.getElem_toArray, List.getElem_cons_zero, List.getElem_cons_succ, Act.put, List.setIfInBounds_toArray, List.set_cons_zero, List.set_cons_succ]
  refine wpAnyH_ready (rs := [5]) (by kernel_rfl) (by simp) ?_
  refine AllReadyH.cons (i := 5) rfl (fun K hK => ?_) AllReadyH.nil
  go_simp
  refine hK.out _ _ (HRN.out _ (HB3.out.alloc HB3.out.size _)) (fun hHeld' => ?_)
  clear hHeld hK K
  have hHeld := hHeld'
  clear hHeld'
  try simp only [List.getElem_toArray, List.getElem_cons_zero, List.getElem_cons_succ, Act.put, List.setIfInBounds_toArray, List.set_cons_zero, List.set_cons_succ]
  have HB4 := Lib.hid (HB3.out.alloc HB3.out.size (.cells #[.slice a b.length cap, .slice a3 (Sha.behind b.length).length cap3] 22))
  have HCC := Lib.hid (concat2 (w3.alloc (.cells #[.slice a b.length cap, .slice a3 (Sha.behind b.length).length cap3] 22)) w3.heap.size _ _ _ _ _ _ (heap_alloc_new _ _) ((HSV.out w3 HB3.out).alloc _) (HO3.out.sl.alloc _) HLB.out)
  refine wpAnyH_ready (rs := [6]) (by kernel_rfl) (by simp) ?_
  refine AllReadyH.cons (i := 6) rfl (fun K hK => ?_) AllReadyH.nil
  go_simp
  go_at_call 63
  refine (HCC.out).mono ?_
  rintro e w5 ⟨v5, rfl, ho5, hb5⟩
  have HO5 := Lib.hid ho5
  have HB5 := Lib.hid (HB4.out.trans (hb5.mono HB4.out.size))
  clear ho5 hb5 HCC
  refine hK.out _ _ (HRN.out _ HB5.out) (fun hHeld' => ?_)
  clear hHeld hK K
  have hHeld := hHeld'
  clear hHeld'
  try simp only [List.getElem_toArray, List.getElem_cons_zero, List.getElem_cons_succ, Act.put, List.setIfInBounds_toArray, List.set_cons_zero, List.set_cons_succ]
  refine wpAnyH_ready (rs := [7]) (by kernel_rfl) (by simp) ?_
  refine AllReadyH.cons (i := 7) rfl (fun K hK => ?_) AllReadyH.nil
  go_simp
  go_at_call 62
  refine (HFO.out _ w5 HO5.out.sl (HGX.out _ HB5.out)).mono ?_
  rintro e w6 ⟨rfl, hb6⟩
  have HB6 := Lib.hid (HB5.out.trans (hb6.mono HB5.out.size))
  clear hb6
  refine hK.out _ _ (HRN.out _ HB6.out) (fun hHeld' => ?_)
  clear hHeld hK K
  have hHeld := hHeld'
  clear hHeld'
  try simp only [List.getElem_toArray, List.getElem_cons_zero, List.getElem_cons_succ, Act.put, List.setIfInBounds_toArray, List.set_cons_zero, List.set_cons_succ]
  refine wpAnyH_ready (rs := [8]) (by kernel_rfl) (by simp) ?_
  refine AllReadyH.cons (i := 8) rfl (fun K hK => ?_) AllReadyH.nil
  go_simp
  go_at_call 64
  refine (HTO.out w6).mono ?_
  rintro e w7 ⟨rfl, hb7⟩
  have HB7 := Lib.hid (HB6.out.trans (hb7.mono HB6.out.size))
  have HST := Lib.hid (HOU.out w7 HB7.out)
  clear hb7
  refine hK.out _ _ (HRN.out _ HB7.out) (fun hHeld' => ?_)
  clear hHeld hK K
  have hHeld := hHeld'
  clear hHeld'
  try simp only [List.getElem_toArray, List.getElem_cons_zero, List.getElem_cons_succ, Act.put, List.setIfInBounds_toArray, List.set_cons_zero, List.set_cons_succ]
  refine wpAnyH_ready (rs := [9]) (by kernel_rfl) (by simp) ?_
  refine AllReadyH.cons (i := 9) rfl (fun K hK => ?_) AllReadyH.nil
  refine any_store_at rfl 32 (.tmp 2) (.tmp 11) rfl ⟨_, 0, none⟩ _ _ rfl rfl HST.out.1 ?_
  refine hK.out _ _ (HST.out.2.1) (fun hHeld' => ?_)
  clear hHeld hK K hHeld'
  try simp only [List.getElem_toArray, List.getElem_cons_zero, List.getElem_cons_succ, Act.put, List.setIfInBounds_toArray, List.set_cons_zero, List.set_cons_succ]
  refine wpAnyH_done (by kernel_rfl) ?_ _
  -- SUM END
  go_wp2
  exact bodyPost_ret (results_cell_row Tryd.results27 _ _ w.heap.size _ _ _ _ rfl HST.out.2.2.2 Tryd.underlying32 rfl (HIH.out _ (Sha.sum_length b))) rfl ⟨rfl, HST.out.2.2.1⟩
end Go.Proofs.YtnoilogepkelaaaDoor
