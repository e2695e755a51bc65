/-
  The disk's call Copy.
-/
import Derived.Test.YtdnjjemdnlegdaaDk5
namespace Go.Proofs.Ytdnjjemdnlegdaa
set_option linter.unusedVariables false
set_option linter.unusedSimpArgs false
open Go Go.RowKit

theorem dcells_one (g : Nat) (d : Dk.D) : (dcells g d).toArray.all (·.oneCell') = true := by
  rw [Array.all_eq_true_iff_forall_mem]
  intro v hv
  simp only [List.mem_toArray, dcells, List.mem_append, List.mem_cons, List.not_mem_nil, or_false] at hv
  rcases hv with (rfl | rfl | rfl) | hv | rfl
  · rfl
  · rfl
  · rfl
  · exact bcells_one _ _ hv
  · rfl
/-- What a call owns, as cells. -/
theorem OwnB.cells {E base : Nat} {w : World} {v : Value} {xs : List (BitVec 8)} (h : OwnB E base w v xs) (n : Nat) (hn : xs.length = n) (h0 : 0 < n) :
    ∃ g cap rest, v = .slice (some ⟨g, 0, none⟩) n cap ∧ base ≤ g ∧ w.heap[g]? = some (.cells (bcells xs ++ rest).toArray E (0, 0)) ∧ cap = n + rest.length ∧ cap ≤ maxLen := by
  subst hn
  rcases h.2 with ⟨rfl, h2⟩ | ⟨g, cap, cur, rfl, hb, hg, hn, hm, hs, ht⟩
  · omega
  · refine ⟨g, cap, cur.toList.drop xs.length, rfl, hb, ?_, ?_, hm⟩
    · rw [hg]
      rw [Nat.mul_one] at ht
      rw [← ht, List.take_append_drop]
    · simp at hs
      simp [hs]
      omega

set_option maxRecDepth 100000 in
set_option maxHeartbeats 1000000 in
theorem dk_copy {w : World} {p g : Nat} {d : Dk.D} (h : DiskAt w p g d) : Calls Try.prog 24 #[.pointer (some ⟨p, 0, none⟩)] w fun e w' =>
    ∃ p' g' r, e = .returned (.pointer (some ⟨p', 0, none⟩)) ∧ DiskAt w' p' g' { d with rest := r } ∧ w.heap.size ≤ p' ∧ w.heap.size ≤ g' ∧ Below w.heap.size w w' := by
  have HC := Lib.hid (dk_is h)
  have HD := Lib.hid h
  have HR := Lib.hid h.row
  have HSZ := Lib.hid (show (dcells g d).toArray.size = 20 by simp [dcells_length g d h.ok.mask])
  have HI := Lib.hid (show (Try.prog.info? 46).map (·.size) = some (dcells g d).toArray.size by rw [HSZ.out]; kernel_rfl)
  have HONE := Lib.hid (dcells_one g d)
  have hpos := h.pos
  have hpl := h.ltp
  clear h
  go_enter Try.func24, Try.ntmps24
  go_upto_region 4 with (first
    | (go_at_call 47; refine HC.out.mono ?_; rintro e w' ⟨rfl, rfl⟩)
    | (refine wpList_load_row rfl 46 (.tmp 8) rfl p rfl _ _ _ _ HR.out Try.underlying46 rfl HI.out ?_)
    | (refine wpList_store_row rfl 46 (.tmp 3) (.tmp 9) rfl _ _ rfl rfl _ _ (heap_alloc_new _ _) HI.out (by rw [HSZ.out]; rfl) HONE.out ?_; rw [World.setRow_alloc_new]))
  obtain ⟨W, hW, hBW, hWs, hWn⟩ := alloc1 w (Obj.cells (dcells g d).toArray 46)
  rw [hW]
  have hDW := HD.out.below hBW (Nat.le_refl _)
  have c0 := hDW.c0
  have HB := Lib.hid (clone_any _ _ W hDW.sl (by omega))
  have HWN := Lib.hid hWn
  clear hW hWn hDW
  generalize d.cap = c at *
  generalize hm : d.b.length = m at *
  have HM := Lib.hid hm
  clear hm
  go_wp2_with (go_at_call 48; refine HB.out.mono ?_; rintro e w1 ⟨v1, rfl, ho, hb⟩; obtain ⟨g1, c1, r, rfl, hg1, hd1, rfl, hcm⟩ := ho.cells m HM.out (by omega); have hn1 := (hb.block w.heap.size (by omega)).trans HWN.out; have HN1 := Lib.hid hn1; have HD1 := Lib.hid hd1; have k0 := cell_of_row w1 w.heap.size 0 _ _ _ hn1; have k1 := frozen_of_row w1 w.heap.size 0 _ _ hn1; simp only [dcells, List.getElem?_toArray, List.cons_append, List.getElem?_cons_zero] at k0; clear ho hn1 hd1)
  go_ret
  have hne : g1 ≠ w.heap.size := by omega
  refine ⟨w.heap.size, g1, r, rfl, ⟨?_, ?_, hne, ?_⟩, Nat.le_refl _, by omega, ?_⟩
  · have := heap_setCell_same w1 w.heap.size 0 _ _ (.slice (some ⟨g1, 0, none⟩) m (m + r.length)) HN1.out
    rw [this]
    simp only [dcells, Dk.D.cap, HM.out]
    rfl
  · rw [heap_setCell_other _ _ _ _ (by simpa using hne)]
    exact HD1.out
  · exact ⟨HD.out.ok.size, HD.out.ok.mask, HD.out.ok.left0, HD.out.ok.left1, by unfold maxLen at hcm; show d.b.length + r.length ≤ _; rw [HM.out]; exact hcm⟩
  · exact (hBW.trans (hb.mono (by omega))).setCell (by simp) _
end Go.Proofs.Ytdnjjemdnlegdaa
