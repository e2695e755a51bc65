/-
  The law ShaDigests: its walk.
-/
import Derived.Test.YtnoilogepkelaaaDoorShaL2
import Derived.Test.YtnoilogepkelaaaDoorRsI
namespace Go.Proofs.YtnoilogepkelaaaDoor
set_option linter.unusedVariables false
set_option linter.unusedSimpArgs false
open Go Go.RowKit

set_option maxRecDepth 100000 in
set_option maxHeartbeats 4000000 in
theorem law_shaDigests_ok (b : List (BitVec 8)) (v0 : Value) (w : World) (h0 : SlB w v0 b) (hl0 : b.length ≤ 3000) (hG : Glob w) :
    Calls Tryd.prog 6 #[v0] w fun e w' => e = .returned (.bool true) ∧ Below w.heap.size w w' := by
  obtain ⟨a0, cap0, rfl⟩ := h0.len
  have HS0 := Lib.hid h0
  have hgz := hG.size
  have HGB := Lib.hid (fun W (hB : Below w.heap.size w W) => hG.below hB hgz)
  have HAW := Lib.hid (fun W (hB : Below w.heap.size w W) => awake_any W (hG.below hB hgz))
  have HEQ := Lib.hid (fun W => run_eql_hash (n := 32) Tryd.underlying32 (by kernel_rfl) (Sha.sum b) (by exact Sha.sum_length _) W)
  have HSU := Lib.hid (fun v W (h : SlB W v b) (hB : Below w.heap.size w W) => sum_any b v W h (by omega) (HGB.out W hB))
  have HRS := Lib.hid (fun v W (h : SlB W v b) => rsum_any b v W h (by omega))
  obtain ⟨R, hRv⟩ : ∃ R, Sha.sum b = R := ⟨_, rfl⟩
  rw [hRv] at HEQ HSU HRS
  obtain ⟨n0, hn0⟩ : ∃ n, b.length = n := ⟨_, rfl⟩
  have HN := Lib.hid hn0
  obtain ⟨SB, hSB⟩ : ∃ SB, strB b = SB := ⟨_, rfl⟩
  have HSB := Lib.hid hSB
  rw [hn0] at hl0 HS0 ⊢
  have hnl0 : ¬ (3000 : Int) < (n0 : Int) := by omega
  have hq1 := fun x y W => (HEQ.out W).1 x y
  have hq2 := fun W => (HEQ.out W).2
  clear h0 hG hRv hn0 hSB HEQ
  go_enter Tryd.func6, Tryd.ntmps6
  go_upto_region 3 with fail
  go_upto_region 4 with (first
    | (at_builtin; refine wpList_append_b rfl (.tmp 8) (.tmp 9) 22 5 rfl Tryd.underlying22 info_u8 w.heap.size (.slice (some ⟨w.heap.size, 0, none⟩) 0 0) [] (own_none w) rfl _ b (HS0.out.alloc _) rfl (by rw [HN.out]; simp; omega) (by simp) ?_; intro v2 w1 ho hg hn'; have HO1 := Lib.hid ho; have HB1 := Lib.hid (((Below.refl _ w).alloc (Nat.le_refl _) _).grown hg (by simp) (fun k e => by simp only [Value.ownBlock, Option.some.injEq] at e; omega)); clear ho hg hn'))
  rw [List.nil_append] at HO1
  go_wp2_with (first
    | (go_at_call 27; refine (HSU.out _ _ HO1.out.sl HB1.out).mono ?_; rintro e w4 ⟨rfl, hb⟩; have HO4 := Lib.hid (HO1.out.below hb (Nat.le_refl _)); have HB4 := Lib.hid (HB1.out.trans (hb.mono HB1.out.size)); clear hb)
    | (go_at_call 33; go_loud (refine (HRS.out _ _ (HS0.out.below HB4.out (Nat.le_refl _))).mono ?_; rintro e w5 ⟨rfl, hb⟩; have HO5 := Lib.hid (HO4.out.below hb (Nat.le_refl _)); have HB5 := Lib.hid (HB4.out.trans (hb.mono HB4.out.size)); have kc0 := conv_any HO5.out.sl; have kc1 := conv_any (HS0.out.below HB5.out (Nat.le_refl _)); rw [HSB.out] at kc0 kc1; clear hb))
    | (go_at_call 23; refine (HAW.out _ HB5.out).mono ?_; rintro e w6 ⟨rfl, hb⟩; have HB6 := Lib.hid (HB5.out.trans (hb.mono HB5.out.size)); clear hb))
  go_ret
  exact ⟨rfl, HB6.out⟩
theorem law_shaDigests_long (b : List (BitVec 8)) (v0 : Value) (w : World) (h0 : SlB w v0 b) (hl : 3000 < b.length) (hG : Glob w) :
    Calls Tryd.prog 6 #[v0] w fun e w' => e = .returned (.bool true) ∧ Below w.heap.size w w' := by
  obtain ⟨a0, cap0, rfl⟩ := h0.len
  have HAW := Lib.hid (awake_any w hG)
  generalize b.length = n0 at *
  clear h0 hG
  have h : (3000 : Int) < (n0 : Int) := by omega
  clear hl
  go_enter Tryd.func6, Tryd.ntmps6
  go_wp2_with (go_at_call 23; refine HAW.out.mono ?_; rintro e w5 ⟨rfl, hbw⟩)
  go_ret
  exact ⟨rfl, hbw⟩

theorem law_shaDigests {w : World} (v0 : Value) (b : List (BitVec 8)) (h0 : SlB w v0 b) (hG : Glob w) :
    Calls Tryd.prog 6 #[v0] w fun e w' => e = .returned (.bool true) ∧ Below w.heap.size w w' := by
  by_cases hl : 3000 < b.length
  · exact law_shaDigests_long b v0 w h0 hl hG
  · exact law_shaDigests_ok b v0 w h0 (by omega) hG
end Go.Proofs.YtnoilogepkelaaaDoor
