/-
  The law DiskCopies: an act on a disk.
-/
import Derived.Test.YtdnjjemdnlegdaaODk
import Derived.Deep.RegionHeld3
import Derived.Deep.MidRow
namespace Go.Proofs.Ytdnjjemdnlegdaa
set_option linter.unusedVariables false
set_option linter.unusedSimpArgs false
open Go Go.RowKit

/-- Behind an act: the disk is one of the same size; nothing else is changed. -/
def ActP (w : World) (p g : Nat) (d : Dk.D) (w' : World) : Prop := ∃ d' : Dk.D, DiskAt w' p g d' ∧ d'.b.length = d.b.length ∧ Kept [p, g] w w'

theorem kept_drew {l : List Nat} {w w' : World} (h : Kept l w.drew w') : Kept l w w' := h
set_option maxRecDepth 100000 in
set_option maxHeartbeats 2000000 in
theorem act_any {w : World} {p g : Nat} {d : Dk.D} (h : DiskAt w p g d) (a0 : BitVec 8) (at_ n : Int) (v : Value) (xs : List (BitVec 8)) (wh : Bool) (mask : List (BitVec 8)) (hs : SlB w v xs) (hm : mask.length = 16)
    (ha0 : -9223372036854775808 ≤ at_) (ha1 : at_ ≤ 9223372036854775807) (hn0 : -9223372036854775808 ≤ n) (hn1 : n ≤ 9223372036854775807) :
    Calls Try.prog 22 #[.pointer (some ⟨p, 0, none⟩), .agg (actC a0 at_ n v wh mask).toArray] w fun e w' => e = .returned (.tuple #[]) ∧ ActP w p g d w' := by
  have hbl : (bcells mask).length = 16 := by rw [bcells_length, hm]
  obtain ⟨W, hW, hBW, hWs, hWn⟩ := alloc1 w (Obj.cells (actC a0 at_ n v wh mask).toArray 25)
  have hra : W.rangeAt w.heap.size 5 (bcells mask) := fun j u hj => by
    rw [cell_of_row W w.heap.size (5 + j) _ _ _ hWn, List.getElem?_toArray, actC, List.getElem?_append_right (by simp), show 5 + j - [Value.int .u8 (bv a0), .int .i64 at_, .int .i64 n, v, .bool wh].length = j by simp]
    exact hj
  have hr0 : W.rangeAt w.heap.size 0 (actC a0 at_ n v wh mask) := fun j u hj => by
    rw [cell_of_row W w.heap.size (0 + j) _ _ _ hWn, List.getElem?_toArray, Nat.zero_add]
    exact hj
  have HR0 := Lib.hid hr0
  have HRA := Lib.hid hra
  have HI := Lib.hid (show (Try.prog.info? 23).map (·.size) = some (bcells mask).length by rw [hbl]; kernel_rfl)
  have HBM := Lib.hid (show (bcells mask).toArray = bytes mask by rw [← bytes_toList])
  have HS := Lib.hid (hs.below hBW (Nat.le_refl _))
  have HD := Lib.hid (h.below hBW (Nat.le_refl _))
  have HK := Lib.hid (Kept.ofBelow (l := [p, g]) hBW (Nat.le_refl _))
  have c0 : W.cell? ⟨w.heap.size, 0, none⟩ = some (.int .u8 (bv a0)) := cell_of_row W w.heap.size 0 _ _ _ hWn
  have c1 : W.cell? ⟨w.heap.size, 1, none⟩ = some (.int .i64 at_) := cell_of_row W w.heap.size 1 _ _ _ hWn
  have c2 : W.cell? ⟨w.heap.size, 2, none⟩ = some (.int .i64 n) := cell_of_row W w.heap.size 2 _ _ _ hWn
  have HOK := Lib.hid h.ok
  have hp := h.ltp
  have hg := h.ltg
  have HP := Lib.hid (show ∀ (W' : World) (d' : Dk.D), DiskAt W' p g d' → d'.b.length = d.b.length → Kept [p, g] W W' → ActP w p g d W' from fun W' d' h1 h2 h3 => ⟨d', h1, h2, HK.out.trans h3⟩)
  have HREAD := Lib.hid (dk_read HD.out at_ n ha1 hn1 hn0)
  have HCUT := Lib.hid (dk_cut HD.out n mask hm hn1)
  have HRS := Lib.hid (dk_restart HD.out)
  have HDA := Lib.hid (data_any (actC a0 at_ n v wh mask).toArray v xs wh W rfl rfl HS.out)
  have hdl : (Dk.data wh xs).length ≤ 1000000000 := by have := Dk.data_length wh xs; omega
  have HPUT := Lib.hid (fun (W' : World) (h : DiskAt W' p g d) (u : Value) (hs : SlB W' u (Dk.data wh xs)) => dk_put h at_ u (Dk.data wh xs) hs hdl ha0 ha1)
  have HWR := Lib.hid (fun (W' : World) (h : DiskAt W' p g d) (u : Value) (hs : SlB W' u (Dk.data wh xs)) (hap : Apart u (Dk.data wh xs) [g, p]) => dk_write h at_ u (Dk.data wh xs) hs hdl hap ha0 ha1)
  have x0 := bv_nonneg a0
  have x1 := bv_lt a0
  have HCS := Lib.hid (show (actC a0 at_ n v wh mask).toArray.toList = actC a0 at_ n v wh mask from rfl)
  have hsz : w.heap.size < W.heap.size := by omega
  clear h hs hra hr0 hWn hBW hdl
  generalize bv a0 = a at *
  have hu := Try.underlying25
  have hi : (Try.prog.info? 25).map (·.size) = some (actC a0 at_ n v wh mask).length := by rw [show (actC a0 at_ n v wh mask).length = 21 by simp [actC, bcells_length, hm]]; kernel_rfl
  have HI' := Lib.hid hi
  clear hi
  obtain ⟨q, hq, hq5⟩ : ∃ q : Int, a % 5 = q ∧ (q = 0 ∨ q = 1 ∨ q = 2 ∨ q = 3 ∨ q = 4) := ⟨a % 5, rfl, by omega⟩
  go_enter Try.func22, Try.ntmps22
  go_upto_region 1 with fail
  rcases hq5 with rfl | rfl | rfl | rfl | rfl
  · go_wp2_with (go_at_call 26; refine HREAD.out.mono ?_; rintro e w1 ⟨u, rfl, ho, hb⟩; have HB := Lib.hid hb; clear ho hb)
    go_end0
    exact ⟨rfl, HP.out _ _ (HD.out.below HB.out (Nat.le_refl _)) rfl (Kept.ofBelow HB.out (Nat.le_refl _))⟩
  · go_upto_region 6 with fail
    refine wp_region_held_drew (S := fun w' => w'.cell? ⟨w.heap.size, 1, none⟩ = some (.int .i64 at_) ∧ w'.rangeAt w.heap.size 0 (actC a0 at_ n v wh mask)) (by kernel_rfl) ?_ (fun hHeld => ?_)
    · exact ⟨c1, HR0.out⟩
    refine wpAnyH_take (i := 3) rfl (by kernel_rfl) (by kernel_rfl) (by kernel_rfl) (fun _ _ _ h => h) (yieldsIf_load_mid (by rfl) _ _ rfl w.heap.size 0 rfl (actC a0 at_ n v wh mask) _ (fun _ h => h.2) hu rfl HI'.out) hHeld ?_
    (try simp only [Act.put, List.setIfInBounds_toArray, List.set_cons_zero, List.set_cons_succ])
    refine wpAnyH_take (i := 0) (v := ?v0) rfl (by kernel_rfl) (by kernel_rfl) (by kernel_rfl) (fun _ _ _ h => h) (Or.inl ⟨by rfl, ?_⟩) hHeld ?_
    case v0 => exact .pointer (some ⟨p, 0, none⟩)
    · intro w hSw; go_simp
    (try simp only [Act.put, List.setIfInBounds_toArray, List.set_cons_zero, List.set_cons_succ])
    refine wpAnyH_take (i := 1) (v := ?v1) rfl (by kernel_rfl) (by kernel_rfl) (by kernel_rfl) (fun _ _ _ h => h) (Or.inl ⟨by rfl, ?_⟩) hHeld ?_
    case v1 => exact .pointer (some ⟨w.heap.size, 1, none⟩)
    · intro w hSw; go_simp
    (try simp only [Act.put, List.setIfInBounds_toArray, List.set_cons_zero, List.set_cons_succ])
    refine wpAnyH_take (i := 2) (v := .int .i64 at_) rfl (by kernel_rfl) (by kernel_rfl) (by kernel_rfl) (fun _ _ _ h => h) (Or.inl ⟨by rfl, ?_⟩) hHeld ?_
    · intro w hSw
      have hS1 := hSw.1
      go_simp
    (try simp only [Act.put, List.setIfInBounds_toArray, List.set_cons_zero, List.set_cons_succ])
    refine wpAnyH_ready (rs := [4]) (by kernel_rfl) (by simp) ?_
    refine AllReadyH.cons rfl (fun K hK => ?_) AllReadyH.nil
    go_simp
    refine (data_any _ v xs wh W.drew rfl rfl HS.out.drew).mono ?_
    rintro e w1 ⟨u, rfl, ho, hb⟩
    have HO := Lib.hid ho
    have HB := Lib.hid hb
    have hs1 := hb.size
    have c1' := (hb.cell (p := ⟨w.heap.size, 1, none⟩) hsz).trans c1
    have hr1 : w1.rangeAt w.heap.size 0 (actC a0 at_ n v wh mask) := fun j u hj => (hb.cell (p := ⟨w.heap.size, 0 + j, none⟩) hsz).trans (HR0.out j u hj)
    clear ho hb
    refine hK.out _ _ ⟨c1', hr1⟩ (fun hHeld1 => ?_)
    clear hK K hHeld
    (try simp only [Act.put, List.setIfInBounds_toArray, List.set_cons_zero, List.set_cons_succ])
    refine wpAnyH_ready (rs := [5]) (by kernel_rfl) (by simp) ?_
    refine AllReadyH.cons rfl (fun K hK => ?_) AllReadyH.nil
    go_simp
    refine (HWR.out _ (HD.out.drew.below HB.out (Nat.le_refl _)) u HO.out.sl (HO.out.apart (by intro k hk; simp at hk; show k < W.heap.size; omega))).mono ?_
    rintro e w2 ⟨rfl, hD, hK2⟩
    have HD2 := Lib.hid hD
    have HK2 := Lib.hid hK2
    have hr2 : ∀ j u, w1.cell? ⟨w.heap.size, j, none⟩ = some u → w2.cell? ⟨w.heap.size, j, none⟩ = some u := fun j u hj => (hK2.cell w.heap.size j (Nat.lt_of_lt_of_le hsz hs1) (by simp; omega)).trans hj
    clear hD hK2
    refine hK.out _ _ ⟨hr2 1 _ c1', fun j u hj => hr2 _ _ (hr1 j u hj)⟩ (fun hHeld2 => ?_)
    clear hK K hHeld1 hHeld2
    (try simp only [Act.put, List.setIfInBounds_toArray, List.set_cons_zero, List.set_cons_succ])
    refine wpAnyH_done (by kernel_rfl) ?_ _
    go_wp2_with fail
    go_end0
    exact ⟨rfl, HP.out _ _ HD2.out (Dk.write_ok HOK.out at_ _).2 ((kept_drew (Kept.ofBelow HB.out (Nat.le_refl _))).trans HK2.out)⟩
  · go_wp2_with (first
      | (refine wpList_load_mid rfl 23 (.tmp 34) rfl w.heap.size 5 rfl (bcells mask) _ HRA.out Try.underlying23 rfl HI.out ?_; rw [HBM.out])
      | (go_at_call 18; refine HCUT.out.mono ?_; rintro e w1 ⟨rfl, hD, hK⟩; have HD1 := Lib.hid hD; have HK1 := Lib.hid hK; clear hD hK))
    go_end0
    exact ⟨rfl, HP.out _ _ HD1.out (by rw [(Dk.cut_ok HOK.out n mask hm hn1).2]) HK1.out⟩
  · go_wp2_with (go_at_call 25; refine HRS.out.mono ?_; rintro e w1 ⟨rfl, hD, hK⟩; have HD1 := Lib.hid hD; have HK1 := Lib.hid hK; clear hD hK)
    go_end0
    exact ⟨rfl, HP.out _ _ HD1.out rfl HK1.out⟩
  · go_upto_region 2 with fail
    refine wp_region_held_drew (S := fun w' => w'.cell? ⟨w.heap.size, 1, none⟩ = some (.int .i64 at_) ∧ w'.rangeAt w.heap.size 0 (actC a0 at_ n v wh mask)) (by kernel_rfl) ?_ (fun hHeld => ?_)
    · exact ⟨c1, HR0.out⟩
    refine wpAnyH_take (i := 3) rfl (by kernel_rfl) (by kernel_rfl) (by kernel_rfl) (fun _ _ _ h => h) (yieldsIf_load_mid (by rfl) _ _ rfl w.heap.size 0 rfl (actC a0 at_ n v wh mask) _ (fun _ h => h.2) hu rfl HI'.out) hHeld ?_
    (try simp only [Act.put, List.setIfInBounds_toArray, List.set_cons_zero, List.set_cons_succ])
    refine wpAnyH_take (i := 0) (v := ?v0) rfl (by kernel_rfl) (by kernel_rfl) (by kernel_rfl) (fun _ _ _ h => h) (Or.inl ⟨by rfl, ?_⟩) hHeld ?_
    case v0 => exact .pointer (some ⟨p, 0, none⟩)
    · intro w hSw; go_simp
    (try simp only [Act.put, List.setIfInBounds_toArray, List.set_cons_zero, List.set_cons_succ])
    refine wpAnyH_take (i := 1) (v := ?v1) rfl (by kernel_rfl) (by kernel_rfl) (by kernel_rfl) (fun _ _ _ h => h) (Or.inl ⟨by rfl, ?_⟩) hHeld ?_
    case v1 => exact .pointer (some ⟨w.heap.size, 1, none⟩)
    · intro w hSw; go_simp
    (try simp only [Act.put, List.setIfInBounds_toArray, List.set_cons_zero, List.set_cons_succ])
    refine wpAnyH_take (i := 2) (v := .int .i64 at_) rfl (by kernel_rfl) (by kernel_rfl) (by kernel_rfl) (fun _ _ _ h => h) (Or.inl ⟨by rfl, ?_⟩) hHeld ?_
    · intro w hSw
      have hS1 := hSw.1
      go_simp
    (try simp only [Act.put, List.setIfInBounds_toArray, List.set_cons_zero, List.set_cons_succ])
    refine wpAnyH_ready (rs := [4]) (by kernel_rfl) (by simp) ?_
    refine AllReadyH.cons rfl (fun K hK => ?_) AllReadyH.nil
    go_simp
    refine (data_any _ v xs wh W.drew rfl rfl HS.out.drew).mono ?_
    rintro e w1 ⟨u, rfl, ho, hb⟩
    have HO := Lib.hid ho
    have HB := Lib.hid hb
    have hs1 := hb.size
    have c1' := (hb.cell (p := ⟨w.heap.size, 1, none⟩) hsz).trans c1
    have hr1 : w1.rangeAt w.heap.size 0 (actC a0 at_ n v wh mask) := fun j u hj => (hb.cell (p := ⟨w.heap.size, 0 + j, none⟩) hsz).trans (HR0.out j u hj)
    clear ho hb
    refine hK.out _ _ ⟨c1', hr1⟩ (fun hHeld1 => ?_)
    clear hK K hHeld
    (try simp only [Act.put, List.setIfInBounds_toArray, List.set_cons_zero, List.set_cons_succ])
    refine wpAnyH_ready (rs := [5]) (by kernel_rfl) (by simp) ?_
    refine AllReadyH.cons rfl (fun K hK => ?_) AllReadyH.nil
    go_simp
    refine (HPUT.out _ (HD.out.drew.below HB.out (Nat.le_refl _)) u HO.out.sl).mono ?_
    rintro e w2 ⟨rfl, hD, hK2⟩
    have HD2 := Lib.hid hD
    have HK2 := Lib.hid hK2
    have hr2 : ∀ j u, w1.cell? ⟨w.heap.size, j, none⟩ = some u → w2.cell? ⟨w.heap.size, j, none⟩ = some u := fun j u hj => (hK2.cell w.heap.size j (Nat.lt_of_lt_of_le hsz hs1) (by simp; omega)).trans hj
    clear hD hK2
    refine hK.out _ _ ⟨hr2 1 _ c1', fun j u hj => hr2 _ _ (hr1 j u hj)⟩ (fun hHeld2 => ?_)
    clear hK K hHeld1 hHeld2
    (try simp only [Act.put, List.setIfInBounds_toArray, List.set_cons_zero, List.set_cons_succ])
    refine wpAnyH_done (by kernel_rfl) ?_ _
    go_wp2_with fail
    go_end0
    exact ⟨rfl, HP.out _ _ HD2.out (Dk.putAt_ok HOK.out at_ _).2 ((kept_drew (Kept.ofBelow HB.out (Nat.le_refl _))).trans HK2.out)⟩
end Go.Proofs.Ytdnjjemdnlegdaa
