/-
  Package epoch: is, Value, Next.
-/
import Derived.Test.YtdnjjemdnlegdaaEp2
import Derived.Test.YtdnjjemdnlegdaaDl2
import Derived.StillTailTactics
namespace Go.Proofs.Ytdnjjemdnlegdaa
set_option linter.unusedVariables false
set_option linter.unusedSimpArgs false
open Go Go.RowKit

section
variable {w : World} {c p : Nat} {fr bound value : Int}
theorem CtrAt.lt (h : CtrAt w c p fr bound value) : c < w.heap.size := (Array.getElem?_eq_some_iff.1 h).1
theorem CtrAt.c0 (h : CtrAt w c p fr bound value) : w.cell? ⟨c, 0, none⟩ = some (.pointer (some ⟨p, 0, none⟩)) := cell_of_row w c 0 _ _ _ h
theorem CtrAt.c1 (h : CtrAt w c p fr bound value) : w.cell? ⟨c, 1, none⟩ = some (.int .i64 fr) := cell_of_row w c 1 _ _ _ h
theorem CtrAt.c2 (h : CtrAt w c p fr bound value) : w.cell? ⟨c, 2, none⟩ = some (.int .i64 bound) := cell_of_row w c 2 _ _ _ h
theorem CtrAt.c3 (h : CtrAt w c p fr bound value) : w.cell? ⟨c, 3, none⟩ = some (.int .i64 value) := cell_of_row w c 3 _ _ _ h
theorem CtrAt.f3 (h : CtrAt w c p fr bound value) : w.frozen? ⟨c, 3, none⟩ = false := frozen_of_row w c 3 _ _ h
theorem CtrAt.kept {w' : World} {l : List Nat} (h : CtrAt w c p fr bound value) (hk : Kept l w w') (hc : c ∉ l) : CtrAt w' c p fr bound value := (hk.block c h.lt hc).trans h
theorem CtrAt.below {w' : World} {B : Nat} (h : CtrAt w c p fr bound value) (hb : Below B w w') (hB : w.heap.size ≤ B) : CtrAt w' c p fr bound value := (hb.block c (Nat.lt_of_lt_of_le h.lt hB)).trans h
theorem CtrAt.set (h : CtrAt w c p fr bound value) (v : Int) : CtrAt (w.setCell ⟨c, 3, none⟩ (.int .i64 v)) c p fr bound v := by
  have := heap_setCell_same w c 3 _ _ (.int .i64 v) h
  exact this
end

theorem ep_is {w : World} {c p : Nat} {fr bound value : Int} (h : CtrAt w c p fr bound value) : Calls Try.prog 63 #[.pointer (some ⟨c, 0, none⟩)] w fun e w' => e = .returned (.bool true) ∧ w = w' := by
  have c0 := h.c0
  clear h
  go_enter Try.func63, Try.ntmps63
  go_wp2
  go_ret
  exact ⟨rfl, rfl⟩
theorem ep_value {w : World} {c p : Nat} {fr bound value : Int} (h : CtrAt w c p fr bound value) : Calls Try.prog 43 #[.pointer (some ⟨c, 0, none⟩)] w fun e w' => e = .returned (.int .i64 value) ∧ w = w' := by
  have c3 := h.c3
  have HC := Lib.hid (ep_is h)
  clear h
  go_enter Try.func43, Try.ntmps43
  go_wp2_with (go_at_call 63; refine HC.out.mono ?_; rintro e w' ⟨rfl, rfl⟩)
  go_ret
  exact ⟨rfl, rfl⟩

theorem ep_next_full {w : World} {c p : Nat} {fr value : Int} (h : CtrAt w c p fr value value) : Calls Try.prog 42 #[.pointer (some ⟨c, 0, none⟩)] w fun e w' => e = .returned (.int .i64 13) ∧ Below w.heap.size w w' := by
  have c3 := h.c3
  have c2 := h.c2
  have HC := Lib.hid (ep_is h)
  clear h
  go_enter Try.func42, Try.ntmps42
  go_wp2_with (go_at_call 63; refine HC.out.mono ?_; rintro e w' ⟨rfl, rfl⟩)
  go_quiet (fail)
  go_wp2
  go_ret
  exact ⟨rfl, Below.drewN (Below.refl _ _) _⟩

/-- A counter behind a step. -/
def CtrR (r : Int) (w : World) (c p : Nat) (fr bound : Int) (v : Nat) : Prop := CtrAt w c p fr bound (if r = 0 then (v : Int) + 1 else v)
theorem sector_fill (v k : Nat) (hk : k ≤ v % 128 + 1) : fill (fun _ => (1 : BitVec 8)) 0 128 (v % 128 + 1) = Ep.sector v := by
  unfold fill Ep.sector
  rw [map_const_range, show 128 - (v % 128 + 1) = 127 - v % 128 by omega]

set_option maxRecDepth 100000 in
set_option maxHeartbeats 2000000 in
theorem ep_next {w : World} {c p g : Nat} {d : Dk.D} (hD : DiskAt w p g d) (fr bound : Int) (v : Nat) (h : CtrAt w c p fr bound v) (hv : (v : Int) < bound) (hcp : c ≠ p) (hcg : c ≠ g) (hf0 : 0 ≤ fr) (hf1 : fr ≤ 16384) (hb : bound ≤ 2097152) :
    Calls Try.prog 42 #[.pointer (some ⟨c, 0, none⟩)] w fun e w' =>
      e = .returned (.int .i64 (Dk.write d (fr + (v / 128 : Nat)) (Ep.sector v)).2) ∧ DiskAt w' p g (Dk.write d (fr + (v / 128 : Nat)) (Ep.sector v)).1 ∧
      CtrR (Dk.write d (fr + (v / 128 : Nat)) (Ep.sector v)).2 w' c p fr bound v ∧ Kept [p, g, c] w w' := by
  have HC := Lib.hid (ep_is h)
  have HCT := Lib.hid h
  have HD := Lib.hid hD
  have c3 := h.c3
  have c2 := h.c2
  have hcl := h.lt
  have hpl := hD.ltp
  have hgl := hD.ltg
  have hvb : ((v : Int) == bound) = false := by rw [beq_eq_false_iff_ne]; omega
  have hmk := fun w => make_bytes 128 (by omega) w
  rw [show ((128 : Nat) : Int) = 128 from rfl] at hmk
  obtain ⟨Z, hZ⟩ : ∃ Z, Z = bytes (List.replicate 128 0) := ⟨_, rfl⟩
  rw [← hZ] at hmk
  have HZ := Lib.hid hZ
  have HMK := Lib.hid hmk
  obtain ⟨R, hR⟩ : ∃ R, R = Dk.write d (fr + (v / 128 : Nat)) (Ep.sector v) := ⟨_, rfl⟩
  rw [← hR]
  have HR := Lib.hid hR
  clear hmk hZ hR h hD
  go_enter Try.func42, Try.ntmps42
  go_wp2_with (go_at_call 63; refine HC.out.mono ?_; rintro e w' ⟨rfl, rfl⟩)
  go_quiet (fail)
  go_upto_region 5 with fail
  have hmk := HMK.out
  go_upto_region 6 with fail
  clear hmk HMK
  obtain ⟨W, hW, hBW, hWs, hWn⟩ := alloc1 (w.drewN nq) (Obj.cells Z 5)
  rw [hW]
  clear hW
  have hWs : W.heap.size = w.heap.size + 1 := hWs
  have hWn : W.heap[w.heap.size]? = some (.cells (bytes (fill (fun _ => (1 : BitVec 8)) 0 128 0)) 5 (0, 0)) := by rw [fill_zero, ← HZ.out]; exact hWn
  have hBW : Below w.heap.size w W := (Below.drewN (Below.refl _ w) nq).trans hBW
  have HD := Lib.hid (HD.out.below hBW (Nat.le_refl _))
  have HCT := Lib.hid (HCT.out.below hBW (Nat.le_refl _))
  have HBW := Lib.hid (Kept.ofBelow (l := [p, g, c]) hBW (Nat.le_refl _))
  have HWN := Lib.hid hWn
  have c3 := HCT.out.c3
  have hsz : w.heap.size < W.heap.size := by omega
  have hvm : v % 128 < 128 := by omega
  clear hWn hBW HZ HC

  go_wp2
  go_loopw [27] (fun i wr => ∃ k : Nat, k ≤ v % 128 + 1 ∧ i = .int .i64 k ∧ Hid (wr.heap[w.heap.size]? = some (.cells (bytes (fill (fun _ => (1 : BitVec 8)) 0 128 k)) 5 (0, 0))) ∧ Hid (DiskAt wr p g d) ∧ Hid (CtrAt wr c p fr bound v) ∧ Hid (Kept [p, g, c] w wr) ∧ w.heap.size < wr.heap.size) (fun i _ => v % 128 + 1 - (intOf i).toNat)
  case atStart => exact ⟨0, by omega, rfl, HWN, HD, HCT, HBW, hsz⟩
  case round =>
    clear HWN HD HCT HBW hsz c3 hWs
    obtain ⟨k, hk, rfl, HN, HD, HCT, HB, hz⟩ := hrel
    by_cases hlt : k < v % 128 + 1
    · have hfl := Lib.hid (fill_length (fun _ => (1 : BitVec 8)) 0 128 k (by omega))
      have cN := (cell_of_row wr w.heap.size k _ _ _ HN.out).trans (bytes_get? _ k (by rw [hfl.out]; omega))
      have f0 := frozen_of_row wr w.heap.size k _ _ HN.out
      have hset := heap_setCell_same wr w.heap.size k _ _ (.int .u8 (bv 1)) HN.out
      rw [bytes_set, fill_set _ _ _ _ (by omega)] at hset
      have HS := Lib.hid hset
      generalize (fill (fun _ => (1 : BitVec 8)) 0 128 k).getD k 0 = z at cN
      have hk127 : k < 128 := by omega
      clear hset
      go_wp2
      refine ⟨⟨k + 1, by omega, by go_num, HS, Lib.hid ?_, Lib.hid ?_, Lib.hid (HB.out.newCell (Nat.le_refl _) _), by simpa [World.setCell] using hz⟩, by simp [intOf]; omega⟩
      · exact HD.out.kept ((Kept.refl [w.heap.size] wr).setCell (by simp) _) (by simp; omega) (by simp; omega)
      · exact HCT.out.kept ((Kept.refl [w.heap.size] wr).setCell (by simp) _) (by simp; omega)
    · obtain rfl : k = v % 128 + 1 := by omega
      have hn := HN.out
      rw [sector_fill v 0 (by omega)] at hn
      have hsl : SlB wr (.slice (some ⟨w.heap.size, 0, none⟩) 128 128) (Ep.sector v) := SlB.ofRow (bytes_toList _) (by rw [Ep.sector_length]) hz (fun j => cell_of_row wr w.heap.size j _ _ _ hn) (by rw [Ep.sector_length]; omega) (by decide)
      have HSL := Lib.hid hsl
      have c0 := HCT.out.c0
      have c1 := HCT.out.c1
      have c3 := HCT.out.c3
      clear hsl hn HN hlt hk
      go_upto_region 11 with fail
      obtain ⟨q, hq⟩ : ∃ q, v / 128 = q := ⟨_, rfl⟩
      have hq1 : (v : Int) / 128 = (q : Int) := by omega
      have hqb : q ≤ 16384 := by omega
      have hq2 : IntKind.i64.wrap (fr + (q : Int)) = fr + q := by rw [IntKind.wrap_i64]; omega
      have HWD := fun (W : World) (hD : DiskAt W p g d) (hs : SlB W (.slice (some ⟨w.heap.size, 0, none⟩) 128 128) (Ep.sector v)) => dk_write hD (fr + (q : Int)) (.slice (some ⟨w.heap.size, 0, none⟩) 128 128) (Ep.sector v) hs (by rw [Ep.sector_length]; omega) (by intro _ k hk; simp [Value.ownBlock] at hk; subst hk; simp; omega) (by omega) (by omega)
      have hRq := HR.out
      rw [hq] at hRq
      rw [← hRq] at HWD
      have HWD := Lib.hid HWD
      have hvl : (v : Int) ≤ 2097152 := by omega
      clear hq hRq HR hb hv hvb
      by_cases hR2 : R.2 = 0
      · have hb1 : (R.2 != 0) = false := by simpa using hR2
        have HR2 := Lib.hid hR2
        have hpost : Hid (∀ W : World, DiskAt W p g R.1 ∧ CtrAt W c p fr bound ((v : Int) + 1) ∧ Kept [p, g, c] w W → DiskAt W p g R.1 ∧ CtrR R.2 W c p fr bound v ∧ Kept [p, g, c] w W) := Lib.hid (fun W h => by unfold CtrR; rw [if_pos HR2.out]; exact h)
        clear hR2
        go_still_tail 15, (by kernel_rfl)
        go_wp2_with (go_at_call 19; refine (HWD.out _ HD.out.drew HSL.out.drew).mono ?_; rintro e w2 ⟨rfl, hD2, hK2⟩; have hC2 := (show CtrAt wr.drew c p fr bound v from HCT.out).kept hK2 (by simp; omega); have k3 := hC2.c3; have kf := hC2.f3; have HD2 := Lib.hid hD2; have HK2 := Lib.hid (HB.out.drew.trans (hK2.mono (by intro k hk; simp at hk ⊢; omega))); have HC2 := Lib.hid hC2; clear hD2 hK2 hC2)
        go_ret
        refine ⟨by first | rfl | exact ret_int HR2.out.symm, hpost.out _ ⟨?_, HC2.out.set _, HK2.out.setCell (by simp) _⟩⟩
        exact HD2.out.kept ((Kept.refl [c] w2).setCell (by simp) _) (by simp; omega) (by simp; omega)
      · have hb1 : (R.2 != 0) = true := by simpa using hR2
        have hpost : Hid (∀ W : World, DiskAt W p g R.1 ∧ CtrAt W c p fr bound (v : Int) ∧ Kept [p, g, c] w W → DiskAt W p g R.1 ∧ CtrR R.2 W c p fr bound v ∧ Kept [p, g, c] w W) := Lib.hid (fun W h => by unfold CtrR; rw [if_neg hR2]; exact h)
        clear hR2
        go_still_tail 15, (by kernel_rfl)
        go_wp2_with (go_at_call 19; refine (HWD.out _ HD.out.drew HSL.out.drew).mono ?_; rintro e w2 ⟨rfl, hD2, hK2⟩; have HC2 := Lib.hid ((show CtrAt wr.drew c p fr bound v from HCT.out).kept hK2 (by simp; omega)); have HD2 := Lib.hid hD2; have HK2 := Lib.hid (HB.out.drew.trans (hK2.mono (by intro k hk; simp at hk ⊢; omega))); clear hD2 hK2)
        go_ret
        exact ⟨rfl, hpost.out _ ⟨HD2.out, HC2.out, HK2.out⟩⟩
end Go.Proofs.Ytdnjjemdnlegdaa
