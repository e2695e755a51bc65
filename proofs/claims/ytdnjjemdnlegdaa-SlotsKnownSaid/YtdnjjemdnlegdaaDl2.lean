/-
  Layer 8's statements: what works.
-/
import Derived.Test.YtdnjjemdnlegdaaDl1
namespace Go.Proofs.Ytdnjjemdnlegdaa
set_option linter.unusedVariables false
set_option linter.unusedSimpArgs false
open Go Go.RowKit

def mask1 : List (BitVec 8) := [1, 0, 0, 0, 0, 0, 0, 0, 0, 0, 0, 0, 0, 0, 0, 0]
def worksD : Dk.D := (Dk.cut (Dk.fresh 2) 1 mask1).1
def worksR : Dk.D × Int := Dk.write worksD 0 (List.replicate 256 7)
theorem worksR_facts : (Dk.cut (Dk.fresh 2) 1 mask1).2 = 0 ∧ worksR.2 = 12 ∧ worksR.1.off = true ∧ worksR.1.writes = 2 ∧ worksR.1.b.length = 256 ∧ worksR.1.b.getD 127 0 = 7 ∧ worksR.1.b.getD 128 0 = 7 ∧ worksR.1.b.getD 129 0 = 0 := by
  decide +kernel
theorem mask1_cells : bytes mask1 = #[.int .u8 1, .int .u8 0, .int .u8 0, .int .u8 0, .int .u8 0, .int .u8 0, .int .u8 0, .int .u8 0, .int .u8 0, .int .u8 0, .int .u8 0, .int .u8 0, .int .u8 0, .int .u8 0, .int .u8 0, .int .u8 0] := by kernel_rfl

theorem map_const_range {α : Type} (n : Nat) (x : α) : (List.range n).map (fun _ => x) = List.replicate n x := List.eq_replicate_iff.2 ⟨by simp, fun y hy => by simp only [List.mem_map] at hy; obtain ⟨_, _, rfl⟩ := hy; rfl⟩
/-- make([]byte, n): a number known. -/
theorem make_bytes (n : Nat) (hn : n ≤ 1000000) (w : World) : (Instr.makeSlice 22 (.int .i64 (n : Int)) (.int .i64 (n : Int))).run Try.prog w = .ok (.slice (some ⟨w.heap.size, 0, none⟩) n n) (w.alloc (.cells (bytes (List.replicate n 0)) 5)) := by
  obtain ⟨i, hi, hz, hsz, hby⟩ := info_parts info_u8
  have hm := run_makeSlice (P := Try.prog) w 22 5 i (.int .u8 0) Try.underlying22 hi hz .i64 .i64 (n : Int) (n : Int) (by omega) (by omega) (by rw [hsz]; omega) (by rw [hby]; omega) (by omega)
  rw [hsz, Int.toNat_natCast, Nat.mul_one] at hm
  have hc : madeCells (Value.int .u8 0).cells n = bytes (List.replicate n 0) := by
    have e0 : (Value.int .u8 0).cells = #[.int .u8 0] := rfl
    apply Array.ext_getElem?
    intro j
    by_cases hj : j < n
    · rw [bytes_get? _ j (by simpa using hj)]
      simp [madeCells, e0, hj, bv, Nat.mod_one]
    · rw [Array.getElem?_eq_none (by rw [size_madeCells]; omega), Array.getElem?_eq_none (by rw [bytes_size]; simp; omega)]
  rw [hc] at hm
  exact hm

set_option maxRecDepth 100000 in
set_option maxHeartbeats 1000000 in
theorem works_any (w : World) : Calls Try.prog 21 #[] w fun e w' => e = .returned (.bool true) ∧ Below w.heap.size w w' := by
  have HN := Lib.hid (fun w => dk_new 2 (by omega) (by omega) w)
  have hmk := fun w => make_bytes 256 (by omega) w
  rw [show ((256 : Nat) : Int) = 256 from rfl] at hmk
  obtain ⟨Z, hZ⟩ : ∃ Z, Z = bytes (List.replicate 256 0) := ⟨_, rfl⟩
  rw [← hZ] at hmk
  have HZ := Lib.hid hZ
  have HMK := Lib.hid hmk
  clear hmk hZ
  go_enter Try.func21, Try.ntmps21
  go_upto_region 4 with (go_at_call 14; refine (HN.out w).mono ?_; rintro e w1 ⟨p, g, rfl, hD1, hp1, hg1, hb1⟩)
  have hmk := HMK.out w1
  have HD1 := Lib.hid hD1
  clear HMK HN hD1
  go_upto_region 5 with fail
  obtain ⟨W, hW, hBW, hWs, hWn⟩ := alloc1 w1 (Obj.cells Z 5)
  rw [hW]
  clear hmk hW
  have hDW := HD1.out.below hBW (Nat.le_refl _)
  have hpB := HD1.out.ltp
  have hgB := HD1.out.ltg
  have hbW := hb1.trans (hBW.mono hb1.size)
  have hn0 : W.heap[w1.heap.size]? = some (.cells (bytes (fill (fun _ => (7 : BitVec 8)) 0 256 0)) 5 (0, 0)) := by rw [fill_zero, ← HZ.out]; exact hWn
  have HDW := Lib.hid hDW
  have HBW := Lib.hid hbW
  have HN0 := Lib.hid hn0
  have hw1 := hb1.size
  have hsz : w1.heap.size < W.heap.size := by omega
  clear HD1 HZ hWn hBW hb1 hDW hbW hn0 hWs
  generalize w1.heap.size = B at *
  go_wp2
  go_loopw [4] (fun i wr => ∃ k : Nat, k ≤ 256 ∧ i = .int .i64 k ∧ Hid (wr.heap[B]? = some (.cells (bytes (fill (fun _ => (7 : BitVec 8)) 0 256 k)) 5 (0, 0))) ∧ Hid (DiskAt wr p g (Dk.fresh 2)) ∧ Hid (Below w.heap.size w wr) ∧ B < wr.heap.size) (fun i _ => 256 - (intOf i).toNat)
  case atStart => exact ⟨0, by omega, rfl, HN0, HDW, HBW, hsz⟩
  case round =>
    clear HN0 HDW HBW hsz
    obtain ⟨k, hk, rfl, HN, HD, HB, hz⟩ := hrel
    by_cases hlt : k < 256
    · have hfl := Lib.hid (fill_length (fun _ => (7 : BitVec 8)) 0 256 k hk)
      have c0 := (cell_of_row wr B k _ _ _ HN.out).trans (bytes_get? _ k (by rw [hfl.out]; exact hlt))
      have f0 := frozen_of_row wr B k _ _ HN.out
      have hset := heap_setCell_same wr B k _ _ (.int .u8 (bv 7)) HN.out
      rw [bytes_set, fill_set _ _ _ _ hlt] at hset
      have HS := Lib.hid hset
      generalize (fill (fun _ => (7 : BitVec 8)) 0 256 k).getD k 0 = z at c0
      clear hset
      go_wp2
      refine ⟨⟨k + 1, by omega, by go_num, HS, Lib.hid ?_, Lib.hid (HB.out.setCell (by show w.heap.size ≤ B; omega) _), by simpa [World.setCell] using hz⟩, by simp [intOf]; omega⟩
      exact HD.out.kept ((Kept.refl [B] wr).setCell (by simp) _) (by simp; omega) (by simp; omega)
    · obtain rfl : k = 256 := by omega
      have hn := HN.out
      rw [fill_all, map_const_range] at hn
      have hsl : SlB wr (.slice (some ⟨B, 0, none⟩) 256 256) (List.replicate 256 7) := SlB.ofRow (bytes_toList _) (by simp) hz (fun j => cell_of_row wr B j _ _ _ hn) (by simp) (by decide)
      have HSL := Lib.hid hsl
      have hF := worksR_facts
      have HC := fun (w : World) (h : DiskAt w p g (Dk.fresh 2)) => dk_cut h 1 mask1 rfl (by omega)
      rw [mask1_cells, hF.1] at HC
      have HC := Lib.hid HC
      have HW := fun (w : World) (h : DiskAt w p g worksD) (hs : SlB w (.slice (some ⟨B, 0, none⟩) 256 256) (List.replicate 256 7)) => dk_write h 0 _ _ hs (by simp) (by intro _ k hk; simp [Value.ownBlock] at hk; subst hk; simp; omega) (by omega) (by omega)
      rw [show (Dk.write worksD 0 (List.replicate 256 7)) = worksR from rfl, hF.2.1] at HW
      have HW := Lib.hid HW
      have HO := fun (w : World) (h : DiskAt w p g worksR.1) => dk_off h
      rw [hF.2.2.1] at HO
      have HO := Lib.hid HO
      have HWr := fun (w : World) (h : DiskAt w p g worksR.1) => dk_writes h
      rw [hF.2.2.2.1] at HWr
      have HWr := Lib.hid HWr
      have HBy := Lib.hid (fun (w : World) (h : DiskAt w p g worksR.1) => dk_bytes h)
      have HF := Lib.hid hF
      clear hsl hn HN hF
      go_wp2_with (first
        | (go_at_call 18; refine (HC.out _ HD.out).mono ?_; rintro e w2 ⟨rfl, hD2, hK2⟩; have HD2 := Lib.hid hD2; have HK2 := Lib.hid hK2; clear hD2 hK2)
        | (go_at_call 19; refine (HW.out _ HD2.out (HSL.out.kept HK2.out (by simp; omega))).mono ?_; rintro e w3 ⟨rfl, hD3, hK3⟩; have HD3 := Lib.hid hD3; have HK3 := Lib.hid hK3; clear hD3 hK3)
        | (go_at_call 20; refine (HO.out _ HD3.out).mono ?_; rintro e w' ⟨rfl, rfl⟩)
        | (go_at_call 23; refine (HWr.out _ HD3.out).mono ?_; rintro e w' ⟨rfl, rfl⟩)
        | (go_at_call 17; refine (HBy.out _ HD3.out).mono ?_; rintro e w4 ⟨v4, rfl, hO4, hB4⟩; obtain ⟨g4, c4, rfl, hg4, hl4, hc4, hs4⟩ := hO4.form 256 HF.out.2.2.2.2.1 (by omega); have k1 := hs4.cell 127 (by rw [HF.out.2.2.2.2.1]; omega); have k2 := hs4.cell 128 (by rw [HF.out.2.2.2.2.1]; omega); have k3 := hs4.cell 129 (by rw [HF.out.2.2.2.2.1]; omega); rw [HF.out.2.2.2.2.2.1] at k1; rw [HF.out.2.2.2.2.2.2.1] at k2; rw [HF.out.2.2.2.2.2.2.2] at k3; unfold byteV at k1 k2 k3; rw [show bv 7 = 7 from rfl] at k1 k2; rw [show bv 0 = 0 from rfl] at k3; have HB4 := Lib.hid hB4; clear hO4 hB4 hs4))
      go_ret
      exact ⟨rfl, (HB.out.trans ((HK2.out.trans HK3.out).toBelow (by simp; omega) HB.out.size)).trans (HB4.out.mono (by have := HB.out.size; have := HK2.out.size; have := HK3.out.size; omega))⟩
end Go.Proofs.Ytdnjjemdnlegdaa
