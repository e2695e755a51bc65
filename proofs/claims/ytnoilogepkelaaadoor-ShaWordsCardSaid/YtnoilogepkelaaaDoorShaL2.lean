/-
  The law ShaAnybody: its walk.
-/
import Derived.Test.YtnoilogepkelaaaDoorShaL
import Derived.Test.YtnoilogepkelaaaDoorAny
namespace Go.Proofs.YtnoilogepkelaaaDoor
set_option linter.unusedVariables false
set_option linter.unusedSimpArgs false
open Go Go.RowKit

theorem OwnB.apart {E base R : Nat} {w : World} {v : Value} {xs : List (BitVec 8)} (h : OwnB E base w v xs) (hR : R < base) : v.ownBlock ≠ some R := fun e => by
  have := (World.ownsRow.lt h R e).1
  omega
/-- bytes behind a new, empty slice. -/
theorem own_none (w : World) : OwnB 5 w.heap.size (w.alloc (.cells #[] 5)) (.slice (some ⟨w.heap.size, 0, none⟩) 0 0) [] := World.ownsRow_made w #[] 0 (Nat.le_refl _) (by decide) rfl

set_option maxRecDepth 100000 in
set_option maxHeartbeats 4000000 in
theorem law_shaAnybody_ok (b more : List (BitVec 8)) (v0 v1 : Value) (w : World) (h0 : SlB w v0 b) (h1 : SlB w v1 more) (hl0 : b.length ≤ 3000) (hl1 : more.length ≤ 3000) (hG : Glob w) :
    Calls Tryd.prog 4 #[v0, v1] w fun e w' => e = .returned (.bool true) ∧ Below w.heap.size w w' := by
  obtain ⟨a0, cap0, rfl⟩ := h0.len
  obtain ⟨a1, cap1, rfl⟩ := h1.len
  have hbl := Sha.behind_length b.length
  have hmp := Sha.many_pos b.length
  have HL := Lib.hid (show (b ++ Sha.behind b.length).length ≤ 3072 ∧ (Sha.behind b.length).length ≤ 72 by rw [List.length_append]; omega)
  have HS0 := Lib.hid h0
  have HS1 := Lib.hid h1
  have hgz := hG.size
  have HGB := Lib.hid (fun W (hB : Below w.heap.size w W) => hG.below hB hgz)
  have HAW := Lib.hid (fun W (hB : Below w.heap.size w W) => awake_any W (hG.below hB hgz))
  have HBH := Lib.hid (fun W => behind_any b.length (by omega) W)
  have hR := Sha.sum_length b
  have hRS := Sha.resume_sum b more
  have HIB := Lib.hid (show (Tryd.prog.info? 32).map (·.size) = some (bytes (Sha.resume (Sha.sum b) b.length more)).size by rw [bytes_size, hRS, Sha.sum_length]; kernel_rfl)
  have HIL := Lib.hid (show (Tryd.prog.info? 32).map (·.size) = some (bytes (Sha.resume (Sha.sum b) b.length more)).toList.length by rw [Array.length_toList]; exact HIB.out)
  have HEQ := Lib.hid (fun W => run_eql_hash (n := 32) Tryd.underlying32 (by kernel_rfl) (Sha.resume (Sha.sum b) b.length more) (by rw [hRS]; exact Sha.sum_length _) W)
  have HRZ := Lib.hid (show (Sha.resume (Sha.sum b) b.length more).length = 32 by rw [hRS]; exact Sha.sum_length _)
  have HSU := Lib.hid (fun v W (h : SlB W v (b ++ Sha.behind b.length ++ more)) (hB : Below w.heap.size w W) => sum_any (b ++ Sha.behind b.length ++ more) v W h (by rw [List.length_append]; have := HL.out.1; omega) (HGB.out W hB))
  have HS0' := Lib.hid (fun W (hB : Below w.heap.size w W) => sum_any b _ W (h0.below hB (Nat.le_refl _)) (by omega) (HGB.out W hB))
  have HRE := Lib.hid (fun W (hB : Below w.heap.size w W) => resume_any (Sha.sum b) (Sha.sum_length b) b.length (by omega) more _ W (h1.below hB (Nat.le_refl _)) (by omega) (HGB.out W hB))
  rw [← hRS] at HSU
  obtain ⟨R, hRv⟩ : ∃ R, Sha.resume (Sha.sum b) b.length more = R := ⟨_, rfl⟩
  rw [hRv] at HIB HIL HEQ HRZ HSU HRE
  obtain ⟨n0, hn0⟩ : ∃ n, b.length = n := ⟨_, rfl⟩
  obtain ⟨n1, hn1⟩ : ∃ n, more.length = n := ⟨_, rfl⟩
  have HN := Lib.hid (And.intro hn0 hn1)
  rw [hn0] at hl0 HBH HRE HL HSU HS0 HS0' ⊢
  rw [hn1] at hl1 HRE HS1 ⊢
  have hnl0 : ¬ (3000 : Int) < (n0 : Int) := by omega
  have hnl1 : ¬ (3000 : Int) < (n1 : Int) := by omega
  clear h0 h1 hbl hmp hG hR hRS hRv hn0 hn1
  go_enter Tryd.func4, Tryd.ntmps4
  go_upto_region 3 with fail
  go_upto_region 4 with (first
    | (at_builtin; refine wpList_append_b rfl (.tmp 17) (.tmp 18) 22 5 rfl Tryd.underlying22 info_u8 w.heap.size (.slice (some ⟨w.heap.size, 0, none⟩) 0 0) [] (own_none w) rfl _ b (HS0.out.alloc _) rfl (by rw [HN.out.1]; simp; omega) (by simp) ?_; intro v2 w1 ho hg hn'; have HO1 := Lib.hid ho; have HB1 := Lib.hid (((Below.refl _ w).alloc (Nat.le_refl _) _).grown hg (by simp) (fun k e => by simp only [Value.ownBlock, Option.some.injEq] at e; omega)); clear ho hg hn')
    | (go_at_call 24; refine (HBH.out _).mono ?_; rintro e w2 ⟨v3, rfl, ho, hb⟩; have HO2 := Lib.hid ho; have HO1b := Lib.hid (HO1.out.below hb (Nat.le_refl _)); have HB2 := Lib.hid (HB1.out.trans (hb.mono HB1.out.size)); clear ho hb)
    | (at_builtin; refine wpList_append_b rfl (.tmp 19) (.tmp 22) 22 5 rfl Tryd.underlying22 info_u8 w.heap.size _ _ HO1b.out rfl _ _ HO2.out.sl rfl (by simp; have := HL.out.2; have := HN.out.1; omega) HB2.out.size ?_; intro v4 w3 ho hg hn'; have HO3 := Lib.hid ho; have HB3 := Lib.hid (HB2.out.grown hg HB2.out.size (fun k e => (World.ownsRow.lt HO1b.out k e).1)); clear ho hg hn'))
  rw [List.nil_append] at HO3
  clear HBH HO1 HO2 HO1b HB1 HB2
  go_upto_region 5 with (first
    | (go_at_call 27; refine (HS0'.out _ HB3.out).mono ?_; rintro e w4 ⟨rfl, hb⟩; have HO4 := Lib.hid (HO3.out.below hb (Nat.le_refl _)); have HB4 := Lib.hid (HB3.out.trans (hb.mono HB3.out.size)); clear hb)
    | (go_at_call 29; refine (HRE.out _ HB4.out).mono ?_; rintro e w5 ⟨rfl, hb⟩; have HO5 := Lib.hid (HO4.out.below hb (Nat.le_refl _)); have HB5 := Lib.hid (HB4.out.trans (hb.mono HB4.out.size)); clear hb)
    | (refine wpList_store_row rfl 32 (.tmp 6) (.tmp 31) rfl _ _ rfl rfl _ _ (heap_alloc_new _ _) HIB.out (by rw [bytes_size, HRZ.out]; rfl) (bytes_one _) ?_; rw [World.setRow_alloc_new]))
  obtain ⟨X, hX, hBX, hXs, hX0⟩ := alloc1 w5 (.cells (bytes R) 32)
  rw [hX]
  have hz5 := HB5.out.size
  have HOX := Lib.hid (HO5.out.below hBX (Nat.le_refl _))
  have HBX := Lib.hid (HB5.out.trans (hBX.mono hz5))
  have HRG := Lib.hid (rng_of_row X w5.heap.size _ _ _ hX0)
  have HOW := Lib.hid (show v4.ownBlock ≠ some w5.heap.size from fun e => by have := (World.ownsRow.lt HO5.out _ e).2; omega)
  have HXS := Lib.hid hXs
  have hq1 := fun x y W => (HEQ.out W).1 x y
  have hq2 := fun W => (HEQ.out W).2
  have HSX := Lib.hid (HS1.out.below HBX.out (Nat.le_refl _))
  clear hX hBX hXs hX0 hz5 HO3 HO4 HO5 HB3 HB4 HS0' HRE HEQ
  -- REG A BEGIN
  refine wp_region_held_drew (S := fun w' => w'.rangeAt w5.heap.size 0 (bytes R).toList) (by kernel_rfl) (HRG.out) (fun hHeld => ?_)
  refine wpAnyH_take (i := 0) (v := ?v1) rfl (by kernel_rfl) (by kernel_rfl) (by kernel_rfl) (fun _ _ _ h => h) (Or.inl ⟨by rfl, ?y1⟩) (by assumption) ?r1
  case y1 =>
    intro w' hSw
    go_split_ands
    go_simp
    try with_reducible rfl
  try simp only [List.getElem_toArray, List.getElem_cons_zero, List.getElem_cons_succ, Act.put, List.setIfInBounds_toArray, List.set_cons_zero, List.set_cons_succ]
  refine wpAnyH_take (i := 1) (v := ?v2) rfl (by kernel_rfl) (by kernel_rfl) (by kernel_rfl) (fun _ _ _ h => h) (Or.inl ⟨by rfl, ?y2⟩) (by assumption) ?r2
  case y2 =>
    intro w' hSw
    go_split_ands
    go_simp
    try with_reducible rfl
  try simp only [List.getElem_toArray, List.getElem_cons_zero, List.getElem_cons_succ, Act.put, List.setIfInBounds_toArray, List.set_cons_zero, List.set_cons_succ]
  refine wpAnyH_take (i := 2) (v := ?v3) rfl (by kernel_rfl) (by kernel_rfl) (by kernel_rfl) (fun _ _ _ h => h) (Or.inl ⟨by rfl, ?y3⟩) (by assumption) ?r3
  case y3 =>
    intro w' hSw
    go_split_ands
    go_simp
    try with_reducible rfl
  try simp only [List.getElem_toArray, List.getElem_cons_zero, List.getElem_cons_succ, Act.put, List.setIfInBounds_toArray, List.set_cons_zero, List.set_cons_succ]
  refine wpAnyH_take (i := 3) rfl (by kernel_rfl) (by kernel_rfl) (by kernel_rfl) (fun _ _ _ h => h) (yieldsIf_load_mid (by rfl) 32 (.tmp 6) rfl _ _ rfl ((bytes R).toList) _ (fun _ h => h) Tryd.underlying32 rfl (HIL.out)) (by assumption) ?_
  try simp only [List.getElem_toArray, List.getElem_cons_zero, List.getElem_cons_succ, Act.put, List.setIfInBounds_toArray, List.set_cons_zero, List.set_cons_succ]
  refine wpAnyH_take (i := 4) (v := ?v4) rfl (by kernel_rfl) (by kernel_rfl) (by kernel_rfl) (fun _ _ _ h => h) (Or.inl ⟨by rfl, ?y4⟩) (by assumption) ?r4
  case y4 =>
    intro w' hSw
    go_split_ands
    go_simp
    try with_reducible rfl
  try simp only [List.getElem_toArray, List.getElem_cons_zero, List.getElem_cons_succ, Act.put, List.setIfInBounds_toArray, List.set_cons_zero, List.set_cons_succ]
  refine wpAnyH_take (i := 5) (v := ?v5) rfl (by kernel_rfl) (by kernel_rfl) (by kernel_rfl) (fun _ _ _ h => h) (Or.inl ⟨by rfl, ?y5⟩) (by assumption) ?r5
  case y5 =>
    intro w' hSw
    go_split_ands
    go_simp
    try with_reducible rfl
  try simp only [List.getElem_toArray, List.getElem_cons_zero, List.getElem_cons_succ, Act.put, List.setIfInBounds_toArray, List.set_cons_zero, List.set_cons_succ]
  refine wpAnyH_ready (rs := [6]) (by kernel_rfl) (by simp) ?_
  refine AllReadyH.cons (i := 6) rfl (fun K hK => ?_) AllReadyH.nil
  refine any_of_list (by rfl) (fun Q' hQ' => ?_)
  try simp only [List.getElem_toArray, List.getElem_cons_zero, List.getElem_cons_succ]
  refine wpList_append_b rfl (.tmp 37) (.tmp 38) 22 5 rfl Tryd.underlying22 info_u8 w.heap.size _ _ (show OwnB 5 w.heap.size X.drew v4 _ from HOX.out) rfl _ more (show SlB X.drew _ more from HSX.out) rfl (by have := HL.out.1; have := HN.out.2; omega) HBX.out.size ?_
  intro v7 w7 ho hg hn'
  have HO7 := Lib.hid ho
  have HB7 := Lib.hid (show Below w.heap.size w w7 from HBX.out.drew.grown hg HBX.out.size (fun k e => (World.ownsRow.lt HOX.out k e).1))
  have HR7 := Lib.hid (rng_grown (show X.drew.rangeAt w5.heap.size 0 (bytes R).toList from HRG.out) hg (show w5.heap.size < X.heap.size by have := HXS.out; omega) HOW.out)
  have HZ7 := Lib.hid (show w5.heap.size < w7.heap.size by have := HXS.out; have := hg.size; have : X.drew.heap.size = X.heap.size := rfl; omega)
  clear ho hg hn'
  refine hQ' _ _ (hK.out _ _ (HR7.out) (fun hHeld' => ?_))
  clear hHeld hK K hQ' Q'
  have hHeld := hHeld'
  clear hHeld'
  try simp only [List.getElem_toArray, List.getElem_cons_zero, List.getElem_cons_succ, Act.put, List.setIfInBounds_toArray, List.set_cons_zero, List.set_cons_succ]
  refine wpAnyH_ready (rs := [7]) (by kernel_rfl) (by simp) ?_
  refine AllReadyH.cons (i := 7) rfl (fun K hK => ?_) AllReadyH.nil
  go_simp
  go_at_call 27
  refine (HSU.out _ _ HO7.out.sl HB7.out).mono ?_
  rintro e w8 ⟨rfl, hb⟩
  have HB8 := Lib.hid (HB7.out.trans (hb.mono HB7.out.size))
  have HR8 := Lib.hid (rng_below HR7.out hb HZ7.out)
  have HZ8 := Lib.hid (show w5.heap.size < w8.heap.size by have := HZ7.out; have := hb.size; omega)
  clear hb
  refine hK.out _ _ (HR8.out) (fun hHeld' => ?_)
  clear hHeld hK K
  have hHeld := hHeld'
  clear hHeld'
  try simp only [List.getElem_toArray, List.getElem_cons_zero, List.getElem_cons_succ, Act.put, List.setIfInBounds_toArray, List.set_cons_zero, List.set_cons_succ]
  refine wpAnyH_take (i := 8) (v := ?v6) rfl (by kernel_rfl) (by kernel_rfl) (by kernel_rfl) (fun _ _ _ h => h) (Or.inl ⟨by rfl, ?y6⟩) (by assumption) ?r6
  case y6 =>
    intro w' hSw
    go_split_ands
    go_simp
    try with_reducible rfl
  try simp only [List.getElem_toArray, List.getElem_cons_zero, List.getElem_cons_succ, Act.put, List.setIfInBounds_toArray, List.set_cons_zero, List.set_cons_succ]
  refine wpAnyH_take (i := 9) (v := ?v7) rfl (by kernel_rfl) (by kernel_rfl) (by kernel_rfl) (fun _ _ _ h => h) (Or.inl ⟨by rfl, ?y7⟩) (by assumption) ?r7
  case y7 =>
    intro w' hSw
    go_split_ands
    go_simp
    try with_reducible rfl
  try simp only [List.getElem_toArray, List.getElem_cons_zero, List.getElem_cons_succ, Act.put, List.setIfInBounds_toArray, List.set_cons_zero, List.set_cons_succ]
  refine wpAnyH_take (i := 10) (v := ?v8) rfl (by kernel_rfl) (by kernel_rfl) (by kernel_rfl) (fun _ _ _ h => h) (Or.inl ⟨by rfl, ?y8⟩) (by assumption) ?r8
  case y8 =>
    intro w' hSw
    go_split_ands
    go_simp
    try with_reducible rfl
  try simp only [List.getElem_toArray, List.getElem_cons_zero, List.getElem_cons_succ, Act.put, List.setIfInBounds_toArray, List.set_cons_zero, List.set_cons_succ]
  refine wpAnyH_ready (rs := [11]) (by kernel_rfl) (by simp) ?_
  refine AllReadyH.cons (i := 11) rfl (fun K hK => ?_) AllReadyH.nil
  go_simp
  go_at_call 23
  refine (HAW.out _ HB8.out).mono ?_
  rintro e w9 ⟨rfl, hb⟩
  have HB9 := Lib.hid (HB8.out.trans (hb.mono HB8.out.size))
  have HR9 := Lib.hid (rng_below HR8.out hb (by have := HZ8.out; omega))
  clear hb
  refine hK.out _ _ (HR9.out) (fun hHeld' => ?_)
  clear hHeld hK K
  have hHeld := hHeld'
  clear hHeld'
  try simp only [List.getElem_toArray, List.getElem_cons_zero, List.getElem_cons_succ, Act.put, List.setIfInBounds_toArray, List.set_cons_zero, List.set_cons_succ]
  refine wpAnyH_take (i := 12) (v := ?v9) rfl (by kernel_rfl) (by kernel_rfl) (by kernel_rfl) (fun _ _ _ h => h) (Or.inl ⟨by rfl, ?y9⟩) (by assumption) ?r9
  case y9 =>
    intro w' hSw
    go_split_ands
    go_simp
    try with_reducible rfl
  try simp only [List.getElem_toArray, List.getElem_cons_zero, List.getElem_cons_succ, Act.put, List.setIfInBounds_toArray, List.set_cons_zero, List.set_cons_succ]
  refine wpAnyH_take (i := 13) (v := ?v10) rfl (by kernel_rfl) (by kernel_rfl) (by kernel_rfl) (fun _ _ _ h => h) (Or.inl ⟨by rfl, ?y10⟩) (by assumption) ?r10
  case y10 =>
    intro w' hSw
    go_split_ands
    go_simp
    try with_reducible rfl
  try simp only [List.getElem_toArray, List.getElem_cons_zero, List.getElem_cons_succ, Act.put, List.setIfInBounds_toArray, List.set_cons_zero, List.set_cons_succ]
  refine wpAnyH_done (by kernel_rfl) ?_ _
  -- REG A END
  go_wp2
  go_ret
  exact ⟨rfl, HB9.out⟩
theorem law_shaAnybody_long (b more : List (BitVec 8)) (v0 v1 : Value) (w : World) (h0 : SlB w v0 b) (h1 : SlB w v1 more) (hl : 3000 < b.length ∨ 3000 < more.length) (hG : Glob w) :
    Calls Tryd.prog 4 #[v0, v1] w fun e w' => e = .returned (.bool true) ∧ Below w.heap.size w w' := by
  obtain ⟨a0, cap0, rfl⟩ := h0.len
  obtain ⟨a1, cap1, rfl⟩ := h1.len
  have HAW := Lib.hid (awake_any w hG)
  generalize b.length = n0 at *
  generalize more.length = n1 at *
  clear h0 h1 hG
  by_cases h : (3000 : Int) < (n0 : Int)
  · clear hl
    go_enter Tryd.func4, Tryd.ntmps4
    go_wp2_with (go_at_call 23; refine HAW.out.mono ?_; rintro e w5 ⟨rfl, hbw⟩)
    go_ret
    exact ⟨rfl, hbw⟩
  · have h' : (3000 : Int) < (n1 : Int) := by omega
    clear hl
    go_enter Tryd.func4, Tryd.ntmps4
    go_wp2_with (go_at_call 23; refine HAW.out.mono ?_; rintro e w5 ⟨rfl, hbw⟩)
    go_ret
    exact ⟨rfl, hbw⟩

theorem law_shaAnybody {w : World} (v0 : Value) (b : List (BitVec 8)) (h0 : SlB w v0 b) (v1 : Value) (more : List (BitVec 8)) (h1 : SlB w v1 more) (hG : Glob w) :
    Calls Tryd.prog 4 #[v0, v1] w fun e w' => e = .returned (.bool true) ∧ Below w.heap.size w w' := by
  by_cases hl : 3000 < b.length ∨ 3000 < more.length
  · exact law_shaAnybody_long b more v0 v1 w h0 h1 hl hG
  · exact law_shaAnybody_ok b more v0 v1 w h0 h1 (by omega) (by omega) hG
end Go.Proofs.YtnoilogepkelaaaDoor
