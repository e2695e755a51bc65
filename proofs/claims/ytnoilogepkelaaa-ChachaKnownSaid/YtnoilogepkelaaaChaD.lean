/-
  chacha's double round: what it does to a state in memory.
-/
import Derived.Test.YtnoilogepkelaaaChaW
import Derived.Test.YtnoilogepkelaaaChaQ
import Derived.Deep.RegionHeld3
import Derived.Deep.DeepCutAuto
namespace Go.Proofs.Ytnoilogepkelaaa
set_option linter.unusedVariables false
set_option linter.unusedSimpArgs false
open Go Go.RowKit
attribute [local go_sem] u32_add u32_sub u32_xor u32_or u32_and' u32_shl u32_shr


set_option maxHeartbeats 1000000 in
theorem double_any (b : Nat) (xs : List (BitVec 32)) (w : World) (hl : xs.length = 16) (hb : w.heap[b]? = some (.cells (words xs) 55 (0, 0))) :
    Calls Try.prog 20 #[.pointer (some ⟨b, 0, none⟩)] w fun e w' => e = .returned (.tuple #[]) ∧
      w'.heap[b]? = some (.cells (words (Cha.double xs)) 55 (0, 0)) ∧ w.grownBy w' (some b) := by
  have HB := Lib.hid hb
  have HL := Lib.hid hl
  clear hb hl
  go_enter Try.func20, Try.ntmps20
  go_wp2
  go_loopw [8] (fun i wr => ∃ k : Nat, k ≤ 8 ∧ i = .int .i64 k ∧ Hid (wr.heap[b]? = some (.cells (words (Cha.dsteps xs k)) 55 (0, 0))) ∧ w.grownBy wr (some b)) (fun i _ => 8 - (intOf i).toNat)
  case atStart => exact ⟨0, by omega, rfl, HB, World.grownBy.refl _ _⟩
  case round =>
    obtain ⟨k, hk, rfl, HBk, hg⟩ := hrel
    have HLk := Lib.hid ((Cha.dsteps_length xs k).trans HL.out)
    by_cases hlt : k < 8
    · have hfr : ∀ j, wr.frozen? ⟨b, j, none⟩ = false := fun j => frozen_of_row wr b j _ _ HBk.out
      have hcell : ∀ j, j < 16 → wr.cell? ⟨b, j, none⟩ = some (.int .u32 (wv ((Cha.dsteps xs k).getD j 0))) := fun j hj => (cell_of_row wr b j _ _ _ HBk.out).trans (words_get? _ j (by have := HLk.out; omega))
      have hbs : b < wr.heap.size := (Array.getElem?_eq_some_iff.1 HBk.out).1
      obtain ⟨p0, e0, n0, b0⟩ : ∃ p : Nat, ((k : Int) % 4) = p ∧ p = k % 4 ∧ p < 4 := ⟨k % 4, by omega, rfl, by omega⟩
      obtain ⟨p1, e1, n1, b1, b1'⟩ : ∃ p : Nat, (4 + ((k : Int) + (k : Int) / 4) % 4) = p ∧ p = 4 + (k % 4 + k / 4) % 4 ∧ 4 ≤ p ∧ p < 8 := ⟨_, by omega, rfl, by omega, by omega⟩
      obtain ⟨p2, e2, n2, b2, b2'⟩ : ∃ p : Nat, (8 + ((k : Int) + 2 * ((k : Int) / 4)) % 4) = p ∧ p = 8 + (k % 4 + 2 * (k / 4)) % 4 ∧ 8 ≤ p ∧ p < 12 := ⟨_, by omega, rfl, by omega, by omega⟩
      obtain ⟨p3, e3, n3, b3, b3'⟩ : ∃ p : Nat, (12 + ((k : Int) + 3 * ((k : Int) / 4)) % 4) = p ∧ p = 12 + (k % 4 + 3 * (k / 4)) % 4 ∧ 12 ≤ p ∧ p < 16 := ⟨_, by omega, rfl, by omega, by omega⟩
      have HS := Lib.hid (show Cha.dsteps xs (k + 1) = Cha.qstep (Cha.dsteps xs k) p0 p1 p2 p3 from by rw [n0, n1, n2, n3]; rfl)
      have E0 := Lib.hid e0
      have E1 := Lib.hid e1
      have E2 := Lib.hid e2
      have E3 := Lib.hid e3
      clear n0 n1 n2 n3 e0 e1 e2 e3
      have c0 := hcell p0 (by omega)
      have c1 := hcell p1 (by omega)
      have c2 := hcell p2 (by omega)
      have c3 := hcell p3 (by omega)
      have f0 := hfr p0
      have f1 := hfr p1
      have f2 := hfr p2
      have f3 := hfr p3
      clear hcell hfr
      generalize hx0 : (Cha.dsteps xs k).getD p0 0 = x0 at c0
      generalize hx1 : (Cha.dsteps xs k).getD p1 0 = x1 at c1
      generalize hx2 : (Cha.dsteps xs k).getD p2 0 = x2 at c2
      generalize hx3 : (Cha.dsteps xs k).getD p3 0 = x3 at c3
      have HX := Lib.hid (And.intro hx0 (And.intro hx1 (And.intro hx2 hx3)))
      clear hx0 hx1 hx2 hx3
      go_upto_region 5 with fail
      rw [E1.out, E2.out, E3.out, E0.out]
      have d0 := heap_alloc_new wr (.cells #[.int .i64 (p0 : Int), .int .i64 (p1 : Int), .int .i64 (p2 : Int), .int .i64 (p3 : Int)] 68)
      generalize hW : wr.alloc (.cells #[.int .i64 (p0 : Int), .int .i64 (p1 : Int), .int .i64 (p2 : Int), .int .i64 (p3 : Int)] 68) = W at d0 ⊢
      have hBW : Below wr.heap.size wr W := by rw [← hW]; exact (Below.refl _ _).alloc (Nat.le_refl _) _
      have hWs : wr.heap.size < W.heap.size := by rw [← hW]; simp
      clear hW
      rw [← hBW.cell (p := ⟨b, p0, none⟩) hbs] at c0
      rw [← hBW.cell (p := ⟨b, p1, none⟩) hbs] at c1
      rw [← hBW.cell (p := ⟨b, p2, none⟩) hbs] at c2
      rw [← hBW.cell (p := ⟨b, p3, none⟩) hbs] at c3
      rw [← hBW.frozen (p := ⟨b, p0, none⟩) hbs] at f0
      rw [← hBW.frozen (p := ⟨b, p1, none⟩) hbs] at f1
      rw [← hBW.frozen (p := ⟨b, p2, none⟩) hbs] at f2
      rw [← hBW.frozen (p := ⟨b, p3, none⟩) hbs] at f3
      have a0 : W.cell? ⟨wr.heap.size, 0, none⟩ = some (.int .i64 (p0 : Int)) := cell_of_row W _ 0 _ _ _ d0
      have a1 : W.cell? ⟨wr.heap.size, 1, none⟩ = some (.int .i64 (p1 : Int)) := cell_of_row W _ 1 _ _ _ d0
      have a2 : W.cell? ⟨wr.heap.size, 2, none⟩ = some (.int .i64 (p2 : Int)) := cell_of_row W _ 2 _ _ _ d0
      have a3 : W.cell? ⟨wr.heap.size, 3, none⟩ = some (.int .i64 (p3 : Int)) := cell_of_row W _ 3 _ _ _ d0
      have HD := Lib.hid d0
      clear d0
      have hbW : b < W.heap.size := by omega
      have i0 : (p0 : Int) < 16 := by omega
      have i1 : (p1 : Int) < 16 := by omega
      have i2 : (p2 : Int) < 16 := by omega
      have i3 : (p3 : Int) < 16 := by omega
      go_cut [5] (fun s5 wx => ∃ D : Nat, s5 = .pointer (some ⟨D, 0, none⟩) ∧ W.heap.size ≤ D ∧ Below W.heap.size W wx ∧
          Hid (wx.heap[D]? = some (.cells #[.int .u32 (wv (Cha.quarter ⟨x0, x1, x2, x3⟩).a), .int .u32 (wv (Cha.quarter ⟨x0, x1, x2, x3⟩).b), .int .u32 (wv (Cha.quarter ⟨x0, x1, x2, x3⟩).c), .int .u32 (wv (Cha.quarter ⟨x0, x1, x2, x3⟩).d)] 23 (0, 0))))
      case first =>
        go_region_held3 (fun w' => w'.cell? ⟨wr.heap.size, 0, none⟩ = some (.int .i64 (p0 : Int)) ∧ w'.cell? ⟨wr.heap.size, 1, none⟩ = some (.int .i64 (p1 : Int)) ∧ w'.cell? ⟨wr.heap.size, 2, none⟩ = some (.int .i64 (p2 : Int)) ∧ w'.cell? ⟨wr.heap.size, 3, none⟩ = some (.int .i64 (p3 : Int)) ∧
            w'.cell? ⟨b, p0, none⟩ = some (.int .u32 (wv x0)) ∧ w'.cell? ⟨b, p1, none⟩ = some (.int .u32 (wv x1)) ∧ w'.cell? ⟨b, p2, none⟩ = some (.int .u32 (wv x2)) ∧ w'.cell? ⟨b, p3, none⟩ = some (.int .u32 (wv x3)))
          (first | go_keep | ((try dsimp only); (repeat' apply And.intro) <;> (first | go_keep | (refine (Below.cell (B := W.heap.size) (w := W) ?_ (by assumption)).trans (by assumption); (repeat (first | with_reducible refine Below.setCell ?_ (by simp) _ | with_reducible refine Below.alloc ?_ (by have := hb2.size; simp at this ⊢ <;> omega) _)); (first | exact ((Below.refl _ W).drew).trans hb2 | exact (((Below.refl _ W).drew).alloc (Nat.le_refl _) _).trans (hb2.mono (by simp)) | exact (((Below.refl _ W).alloc (Nat.le_refl _) _).drew).trans (hb2.mono (by simp)))))))
          (first | (go_at_call 8; refine (quarter_agg x0 x1 x2 x3 _).mono ?_; rintro e w2 ⟨rfl, hb2⟩; obtain ⟨hc2, hf2⟩ := bcell hb2; have hz2 : wr.heap.size < w2.heap.size := Nat.lt_of_lt_of_le (by first | assumption | (simp; omega)) hb2.size; have hz3 : b < w2.heap.size := by omega))
        all_goals (go_wp2_with fail; go_meet)
        · refine ⟨w2.heap.size, rfl, by have := hb2.size; simpa using this, ?_, heap_alloc_new w2 _⟩
          exact (((Below.refl _ W).drew).trans hb2).alloc (by have := hb2.size; simpa using this) _
        · have h0 : w2.heap[W.heap.size]? = some (.cells #[.int .u32 0, .int .u32 0, .int .u32 0, .int .u32 0] 23 (0, 0)) := (hb2.block W.heap.size (by simp)).trans (heap_alloc_new W _)
          refine ⟨W.heap.size, rfl, Nat.le_refl _, ?_, heap_setCell_same _ _ 3 _ _ _ (heap_setCell_same _ _ 2 _ _ _ (heap_setCell_same _ _ 1 _ _ _ (heap_setCell_same _ _ 0 _ _ _ h0)))⟩
          repeat (first | with_reducible refine Below.setCell ?_ (by simp) _)
          exact (((Below.refl _ W).alloc (Nat.le_refl _) _).drew).trans (hb2.mono (by simp))
      case rest =>
        obtain ⟨D, rfl, hD, hbx, HQ⟩ := hcut
        rw [← hbx.cell (p := ⟨b, p0, none⟩) hbW] at c0
        rw [← hbx.cell (p := ⟨b, p1, none⟩) hbW] at c1
        rw [← hbx.cell (p := ⟨b, p2, none⟩) hbW] at c2
        rw [← hbx.cell (p := ⟨b, p3, none⟩) hbW] at c3
        rw [← hbx.frozen (p := ⟨b, p0, none⟩) hbW] at f0
        rw [← hbx.frozen (p := ⟨b, p1, none⟩) hbW] at f1
        rw [← hbx.frozen (p := ⟨b, p2, none⟩) hbW] at f2
        rw [← hbx.frozen (p := ⟨b, p3, none⟩) hbW] at f3
        rw [← hbx.cell (p := ⟨wr.heap.size, 0, none⟩) hWs] at a0
        rw [← hbx.cell (p := ⟨wr.heap.size, 1, none⟩) hWs] at a1
        rw [← hbx.cell (p := ⟨wr.heap.size, 2, none⟩) hWs] at a2
        rw [← hbx.cell (p := ⟨wr.heap.size, 3, none⟩) hWs] at a3
        have q0 : wc.cell? ⟨D, 0, none⟩ = some (.int .u32 (wv (Cha.quarter ⟨x0, x1, x2, x3⟩).a)) := cell_of_row wc D 0 _ _ _ HQ.out
        have q1 : wc.cell? ⟨D, 1, none⟩ = some (.int .u32 (wv (Cha.quarter ⟨x0, x1, x2, x3⟩).b)) := cell_of_row wc D 1 _ _ _ HQ.out
        have q2 : wc.cell? ⟨D, 2, none⟩ = some (.int .u32 (wv (Cha.quarter ⟨x0, x1, x2, x3⟩).c)) := cell_of_row wc D 2 _ _ _ HQ.out
        have q3 : wc.cell? ⟨D, 3, none⟩ = some (.int .u32 (wv (Cha.quarter ⟨x0, x1, x2, x3⟩).d)) := cell_of_row wc D 3 _ _ _ HQ.out
        have hDb : ¬ D = b := by omega
        have hDb' : ¬ b = D := by omega
        have ix := fun (i : Int) (h0 : 0 ≤ i) (h1 : i < 4) => run_index_row (P := Try.prog) Try.underlying68 Try.underlying3 rfl (by kernel_rfl) #[.int .i64 (p0 : Int), .int .i64 (p1 : Int), .int .i64 (p2 : Int), .int .i64 (p3 : Int)] rfl i h0 h1
        have ix0 := ix 0 (by decide) (by decide)
        have ix1 := ix 1 (by decide) (by decide)
        have ix2 := ix 2 (by decide) (by decide)
        have ix3 := ix 3 (by decide) (by decide)
        simp at ix0 ix1 ix2 ix3
        clear ix
        go_wp2
        refine wp_loop_rounds 5 ?_
        rw [rounds_succ]
        go_wp2
        go_region
        go_wp2
        rw [rounds_succ]
        go_wp2
        go_region
        go_wp2
        rw [rounds_succ]
        go_wp2
        go_region
        go_wp2
        rw [rounds_succ]
        go_wp2
        go_region
        go_wp2
        rw [rounds_succ]
        go_wp2
        go_roundw
        case rel =>
          have hbc := (hbx.block b hbW).trans ((hBW.block b hbs).trans HBk.out)
          have h4 := heap_setCell_same _ b p3 _ _ (.int .u32 (wv (Cha.quarter ⟨x0, x1, x2, x3⟩).d)) (heap_setCell_same _ b p2 _ _ (.int .u32 (wv (Cha.quarter ⟨x0, x1, x2, x3⟩).c)) (heap_setCell_same _ b p1 _ _ (.int .u32 (wv (Cha.quarter ⟨x0, x1, x2, x3⟩).b)) (heap_setCell_same _ b p0 _ _ (.int .u32 (wv (Cha.quarter ⟨x0, x1, x2, x3⟩).a)) hbc)))
          rw [words_set, words_set, words_set, words_set] at h4
          have hgw := grownBy_below (grownBy_below hg hBW (Nat.le_refl _)) hbx (Nat.le_refl _)
          refine ⟨k + 1, by omega, by go_num, ?_, grownBy_drew (grownBy_drew (grownBy_drew (grownBy_drew (grownBy_setCell (grownBy_setCell (grownBy_setCell (grownBy_setCell hgw _) _) _) _))))⟩
          obtain ⟨rfl, rfl, rfl, rfl⟩ := HX.out
          rw [HS.out]
          exact h4
        case measure => simp [intOf]; omega
    · obtain rfl : k = 8 := by omega
      go_wp2
      go_end0
      exact ⟨rfl, HBk.out, hg⟩
end Go.Proofs.Ytnoilogepkelaaa
