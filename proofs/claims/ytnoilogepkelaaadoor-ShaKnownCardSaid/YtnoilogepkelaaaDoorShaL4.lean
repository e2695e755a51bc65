/-
  The law ShaKnown: its walk.
-/
import Derived.Test.YtnoilogepkelaaaDoorShaL3
import Derived.Test.YtnoilogepkelaaaDoorConst
namespace Go.Proofs.YtnoilogepkelaaaDoor
set_option linter.unusedVariables false
set_option linter.unusedSimpArgs false
open Go Go.RowKit

theorem strB_none : (.string { data := #[] } : Value) = .string (strB []) := by kernel_rfl
theorem word_nil : (.string { data := #[101, 51, 98, 48, 99, 52, 52, 50, 57, 56, 102, 99, 49, 99, 49, 52, 57, 97, 102, 98, 102, 52, 99, 56, 57, 57, 54, 102, 98, 57, 50, 52, 50, 55, 97, 101, 52, 49, 101, 52, 54, 52, 57, 98, 57, 51, 52, 99, 97, 52, 57, 53, 57, 57, 49, 98, 55, 56, 53, 50, 98, 56, 53, 53] } : Value) = .string (strB (Sha.text (Sha.sum []))) := by
  rw [sum_nil]
  kernel_rfl

def digN : List (BitVec 8) := Sha.text (Sha.sum [])
def digA : List (BitVec 8) := Sha.text (Sha.sum [97, 98, 99])
theorem digN_cut : (strB digN).extract 1 64 = strB (digN.drop 1) := by
  unfold digN
  rw [sum_nil]
  kernel_rfl
theorem digN_A : (({ data := #[65] } : ByteArray) ++ (strB digN).extract 1 64) = strB (65 :: digN.drop 1) := by
  unfold digN
  rw [sum_nil]
  kernel_rfl
set_option maxRecDepth 100000 in
theorem of_cut : Sha.of (digN.drop 1) = none := by
  unfold digN
  rw [sum_nil]
  decide +kernel
set_option maxRecDepth 100000 in
theorem of_A : Sha.of (65 :: digN.drop 1) = none := by
  unfold digN
  rw [sum_nil]
  decide +kernel
theorem dig_size (b : List (BitVec 8)) : (Sha.text (Sha.sum b)).length = 64 := by rw [Sha.text_length, Sha.sum_length]
set_option maxRecDepth 100000 in
set_option maxHeartbeats 4000000 in
theorem law_shaKnown (w : World) (hG : Glob w) :
    Calls Tryd.prog 10 #[] w fun e w' => e = .returned (.bool true) ∧ Below w.heap.size w w' := by
  have hgz := hG.size
  have HGB := Lib.hid (fun W (hB : Below w.heap.size w W) => hG.below hB hgz)
  have HAW := Lib.hid (fun W (hB : Below w.heap.size w W) => awake_any W (HGB.out W hB))
  have HWN := Lib.hid (fun W (hB : Below w.heap.size w W) => word_any [] (by simp) W (HGB.out W hB))
  have HWA := Lib.hid (fun W (hB : Below w.heap.size w W) => word_any [97, 98, 99] (by simp) W (HGB.out W hB))
  have HST := Lib.hid (fun W (hB : Below w.heap.size w W) => start_any W (HGB.out W hB))
  have HBH := Lib.hid (fun n (hn : n ≤ 1000) W => behind_any n (by omega) W)
  rw [← word_nil, ← strB_none] at HWN
  rw [← word_abc, ← strB_abc] at HWA
  have hix := fun (W : World) => run_index_row (P := Tryd.prog) (T := 27) (E := 25) Tryd.underlying27 Tryd.underlying25 rfl (by kernel_rfl) (words Sha.starts) (by kernel_rfl) 7 (by omega) (by omega) W
  have hs7 : (words Sha.starts)[7]?.getD undef = .int .u32 1541459225 := by kernel_rfl
  have HR1 := Lib.hid (fun W => (show Calls Tryd.prog 29 #[.agg #[.int .u8 0, .int .u8 0, .int .u8 0, .int .u8 0, .int .u8 0, .int .u8 0, .int .u8 0, .int .u8 0, .int .u8 0, .int .u8 0, .int .u8 0, .int .u8 0, .int .u8 0, .int .u8 0, .int .u8 0, .int .u8 0, .int .u8 0, .int .u8 0, .int .u8 0, .int .u8 0, .int .u8 0, .int .u8 0, .int .u8 0, .int .u8 0, .int .u8 0, .int .u8 0, .int .u8 0, .int .u8 0, .int .u8 0, .int .u8 0, .int .u8 0, .int .u8 0], .int .i64 (-1), .slice none 0 0] W fun e w' => e = .returned (.tuple #[.agg (bytes (List.replicate 32 0)), .int .i64 2]) ∧ Below W.heap.size W w' from resume_err (List.replicate 32 0) rfl (-1) (.inl (by omega)) _ W))
  have HR2 := Lib.hid (fun W => (show Calls Tryd.prog 29 #[.agg #[.int .u8 0, .int .u8 0, .int .u8 0, .int .u8 0, .int .u8 0, .int .u8 0, .int .u8 0, .int .u8 0, .int .u8 0, .int .u8 0, .int .u8 0, .int .u8 0, .int .u8 0, .int .u8 0, .int .u8 0, .int .u8 0, .int .u8 0, .int .u8 0, .int .u8 0, .int .u8 0, .int .u8 0, .int .u8 0, .int .u8 0, .int .u8 0, .int .u8 0, .int .u8 0, .int .u8 0, .int .u8 0, .int .u8 0, .int .u8 0, .int .u8 0, .int .u8 0], .int .i64 72057594037927937, .slice none 0 0] W fun e w' => e = .returned (.tuple #[.agg (bytes (List.replicate 32 0)), .int .i64 2]) ∧ Below W.heap.size W w' from resume_err (List.replicate 32 0) rfl 72057594037927937 (.inr (by omega)) _ W))
  have HIH := Lib.hid (fun (xs : List (BitVec 8)) (h : xs.length = 32) => (show (Tryd.prog.info? 32).map (·.size) = some (bytes xs).size by rw [bytes_size, h]; kernel_rfl))
  have HIZ := Lib.hid (HIH.out (List.replicate 32 0) (List.length_replicate ..))
  have HZO := Lib.hid (bytes_one (List.replicate 32 0))
  have HZS := Lib.hid (show (bytes (List.replicate 32 0)).size = 32 from rfl)
  obtain ⟨Z, hZ⟩ : ∃ Z, bytes (List.replicate 32 0) = Z := ⟨_, rfl⟩
  rw [hZ] at HR1 HR2 HIZ HZO HZS
  have hOF1 := fun W => of_any (digN.drop 1) (by unfold digN; rw [List.length_drop, dig_size]; omega) W
  have hOF2 := fun W => of_any (65 :: digN.drop 1) (by unfold digN; rw [List.length_cons, List.length_drop, dig_size]; omega) W
  have hOF3 := fun W => of_any digA (by unfold digA; rw [dig_size]; omega) W
  rw [← digN_cut, of_cut] at hOF1
  rw [← digN_A, of_A] at hOF2
  rw [show Sha.of digA = some (Sha.sum [97, 98, 99]) from Sha.of_text _ (Sha.sum_length _)] at hOF3
  simp only [Option.getD_none, Option.isSome_none, Option.getD_some, Option.isSome_some] at hOF1 hOF2 hOF3
  rw [hZ] at hOF1 hOF2
  have HIA := Lib.hid (HIH.out (Sha.sum [97, 98, 99]) (Sha.sum_length _))
  have HAZ := Lib.hid (show (bytes (Sha.sum [97, 98, 99])).size = 32 by rw [bytes_size, Sha.sum_length])
  have HEQ := Lib.hid (fun W => run_eql_hash (n := 32) Tryd.underlying32 (by kernel_rfl) (Sha.sum [97, 98, 99]) (Sha.sum_length _) W)
  have HIL := Lib.hid (show (Tryd.prog.info? 32).map (·.size) = some (bytes (Sha.sum [97, 98, 99])).toList.length by rw [Array.length_toList]; exact HIA.out)
  have HSU := Lib.hid (fun v W (h : SlB W v [97, 98, 99]) (hB : Below w.heap.size w W) => sum_any [97, 98, 99] v W h (by simp) (HGB.out W hB))
  have HOA := Lib.hid (bytes_one (Sha.sum [97, 98, 99]))
  have HSN := Lib.hid word_nil
  have HSA := Lib.hid word_abc
  rw [show Sha.text (Sha.sum []) = digN from rfl] at HSN
  rw [show Sha.text (Sha.sum [97, 98, 99]) = digA from rfl] at HSA
  have hsn : (strB digN).size = 64 := by rw [strB_size]; exact dig_size _
  obtain ⟨SN, hSN⟩ : ∃ SN, strB digN = SN := ⟨_, rfl⟩
  obtain ⟨SA, hSA⟩ : ∃ SA, strB digA = SA := ⟨_, rfl⟩
  obtain ⟨ZA, hZA⟩ : ∃ ZA, bytes (Sha.sum [97, 98, 99]) = ZA := ⟨_, rfl⟩
  rw [hSN] at hOF1 hOF2 HSN hsn
  rw [hSA] at hOF3 HSA
  rw [hZA] at hOF3 HIA HEQ HIL HAZ HSU HOA
  have HOF1 := Lib.hid hOF1
  have HOF2 := Lib.hid hOF2
  have HOF3 := Lib.hid hOF3
  clear hG hZ hOF1 hOF2 hOF3 hSN hSA hZA
  go_enter Tryd.func10, Tryd.ntmps10
  go_upto_region 3 with (first
    | (go_at_call 23; refine (HAW.out _ (Below.refl _ w)).mono ?_; rintro e w1 ⟨rfl, hb⟩; have HB1 := Lib.hid hb; clear hb)
    | (go_at_call 39; refine (HWN.out _ HB1.out).mono ?_; rintro e w2 ⟨rfl, hb⟩; have HB2 := Lib.hid (HB1.out.trans (hb.mono HB1.out.size)); clear hb)
    | (go_at_call 25; refine (HST.out _ HB2.out).mono ?_; rintro e w3 ⟨rfl, hb⟩; have HB3 := Lib.hid (HB2.out.trans (hb.mono HB2.out.size)); clear hb))
  go_upto_region 4 with (first
    | (go_at_call 24; refine (HBH.out 3 (by omega) _).mono ?_; rintro e w4 ⟨v3, rfl, ho, hb⟩; have HT4 := Lib.hid ho.sl; have HO4 := Lib.hid ho; have HB4 := Lib.hid (HB3.out.trans (hb.mono HB3.out.size)); clear ho hb))
  go_upto_region 5 with (first
    | (go_at_call 29; refine (HR1.out _).mono ?_; rintro e w5 ⟨rfl, hb⟩; have HT5 := Lib.hid (HT4.out.below hb (Nat.le_refl _)); have HB5 := Lib.hid (HB4.out.trans (hb.mono HB4.out.size)); clear hb)
    | (refine wpList_store_row rfl 32 (.tmp 2) (.tmp 27) rfl _ _ rfl rfl _ _ (heap_alloc_new _ _) HIZ.out (by rw [HZS.out]; rfl) HZO.out ?_; rw [World.setRow_alloc_new]))
  have HC5 := Lib.hid (HB5.out.alloc HB5.out.size (.cells Z 32))
  have HU5 := Lib.hid (HT5.out.alloc (.cells Z 32))
  generalize w5.alloc (.cells Z 32) = x5 at *
  go_upto_region 6 with (first
    | (go_at_call 29; refine (HR2.out _).mono ?_; rintro e w6 ⟨rfl, hb⟩; have HT6 := Lib.hid (HU5.out.below hb (Nat.le_refl _)); have HB6 := Lib.hid (HC5.out.trans (hb.mono HC5.out.size)); clear hb)
    | (refine wpList_store_row rfl 32 (.tmp 4) (.tmp 32) rfl _ _ rfl rfl _ _ (heap_alloc_new _ _) HIZ.out (by rw [HZS.out]; rfl) HZO.out ?_; rw [World.setRow_alloc_new]))
  have HC6 := Lib.hid (HB6.out.alloc HB6.out.size (.cells Z 32))
  have HU6 := Lib.hid (HT6.out.alloc (.cells Z 32))
  generalize w6.alloc (.cells Z 32) = x6 at *
  rw [HSN.out] at HWN
  rw [HSA.out] at HWA
  go_upto_region 7 with (first
    | (go_at_call 39; refine (HWN.out _ HC6.out).mono ?_; rintro e w7 ⟨rfl, hb⟩; have HT7 := Lib.hid (HU6.out.below hb (Nat.le_refl _)); have HB7 := Lib.hid (HC6.out.trans (hb.mono HC6.out.size)); clear hb)
    | (go_at_call 34; refine (HOF1.out _).mono ?_; rintro e w8 ⟨rfl, hb⟩; have HT8 := Lib.hid (HT7.out.below hb (Nat.le_refl _)); have HB8 := Lib.hid (HB7.out.trans (hb.mono HB7.out.size)); clear hb)
    | (refine wpList_store_row rfl 32 (.tmp 6) (.tmp 38) rfl _ _ rfl rfl _ _ (heap_alloc_new _ _) HIZ.out (by rw [HZS.out]; rfl) HZO.out ?_; rw [World.setRow_alloc_new]))
  have HC8 := Lib.hid (HB8.out.alloc HB8.out.size (.cells Z 32))
  have HU8 := Lib.hid (HT8.out.alloc (.cells Z 32))
  generalize w8.alloc (.cells Z 32) = x8 at *
  go_upto_region 8 with (first
    | (go_at_call 39; refine (HWN.out _ HC8.out).mono ?_; rintro e w9 ⟨rfl, hb⟩; have HT9 := Lib.hid (HU8.out.below hb (Nat.le_refl _)); have HB9 := Lib.hid (HC8.out.trans (hb.mono HC8.out.size)); clear hb)
    | (go_at_call 34; refine (HOF2.out _).mono ?_; rintro e w10 ⟨rfl, hb⟩; have HT10 := Lib.hid (HT9.out.below hb (Nat.le_refl _)); have HB10 := Lib.hid (HB9.out.trans (hb.mono HB9.out.size)); clear hb)
    | (refine wpList_store_row rfl 32 (.tmp 8) (.tmp 45) rfl _ _ rfl rfl _ _ (heap_alloc_new _ _) HIZ.out (by rw [HZS.out]; rfl) HZO.out ?_; rw [World.setRow_alloc_new]))
  have HC10 := Lib.hid (HB10.out.alloc HB10.out.size (.cells Z 32))
  have HU10 := Lib.hid (HT10.out.alloc (.cells Z 32))
  generalize w10.alloc (.cells Z 32) = x10 at *
  go_upto_region 9 with (first
    | (go_at_call 39; refine (HWA.out _ HC10.out).mono ?_; rintro e w11 ⟨rfl, hb⟩; have HT11 := Lib.hid (HU10.out.below hb (Nat.le_refl _)); have HB11 := Lib.hid (HC10.out.trans (hb.mono HC10.out.size)); clear hb)
    | (go_at_call 34; refine (HOF3.out _).mono ?_; rintro e w12 ⟨rfl, hb⟩; have HT12 := Lib.hid (HT11.out.below hb (Nat.le_refl _)); have HB12 := Lib.hid (HB11.out.trans (hb.mono HB11.out.size)); clear hb)
    | (refine wpList_store_row rfl 32 (.tmp 10) (.tmp 50) rfl _ _ rfl rfl _ _ (heap_alloc_new _ _) HIA.out (by rw [HAZ.out]; rfl) HOA.out ?_; rw [World.setRow_alloc_new]))
  have h61 : (Sha.behind 3).length = 61 := by rw [Sha.behind_length]; rfl
  have h72 := Lib.hid (show (Sha.behind 56).length = 72 by rw [Sha.behind_length]; rfl)
  have hz12 := HB12.out.size
  obtain ⟨X, hX, hBX, hXs, hX0⟩ := alloc1 w12 (.cells ZA 32)
  rw [hX]
  have HSX := HT12.out.below hBX (Nat.le_refl _)
  obtain ⟨b3, off3, cap3, rfl, _, _⟩ := HSX.open_ 61 h61 (by omega)
  have HCX := Lib.hid (fun W (hW : Below X.heap.size X W) => show W.cell? ⟨b3, off3 + 60, none⟩ = some (.int .u8 24) from (HSX.below hW (Nat.le_refl _)).cell 60 (by rw [h61]; omega))
  have HBX := Lib.hid (HB12.out.trans (hBX.mono hz12))
  have HRG := Lib.hid (fun W (hW : Below X.heap.size X W) => rng_bel hX0 hW)
  have HNO := Lib.hid (fun W => behind_no (-1) (.inl (by omega)) W)
  have hq1 := fun x y W => (HEQ.out W).1 x y
  have hq2 := fun W => (HEQ.out W).2
  have HXS := Lib.hid hXs
  clear HSX hX hBX hXs hX0 hz12 h61 HT4 HT5 HT6 HT7 HT8 HT9 HT10 HT11 HT12 HU5 HU6 HU8 HU10 HO4 HR1 HR2 HOF1 HOF2 HOF3 HSN HSA HIZ HZO HZS HOA HAZ HB1 HB2 HB3 HB4 HB5 HB6 HB7 HB8 HB9 HB10 HB11 HB12 HC5 HC6 HC8 HC10 HWN HWA HAW HST hix hs7
  -- REG K BEGIN
  refine wp_region_held_drew (S := fun W => Below X.heap.size X W) (by kernel_rfl) ((Below.refl _ X).drew) (fun hHeld => ?_)
  refine wpAnyH_ready (rs := [0]) (by kernel_rfl) (by simp) ?_
  refine AllReadyH.cons (i := 0) rfl (fun K hK => ?_) AllReadyH.nil
  go_simp
  go_at_call 24
  refine (HBH.out 56 (by omega) _).mono ?_
  rintro e w13 ⟨v13, rfl, ho, hb⟩
  obtain ⟨a13, cap13, rfl⟩ := ho.sl.len
  rw [h72.out]
  have HB13 := Lib.hid (show Below X.heap.size X w13 from (Below.refl _ X).drew.trans hb)
  clear ho hb
  refine hK.out _ _ (HB13.out) (fun hHeld' => ?_)
  clear hHeld hK K
  have hHeld := hHeld'
  clear hHeld'
  try simp only [List.getElem_toArray, List.getElem_cons_zero, List.getElem_cons_succ, Act.put, List.setIfInBounds_toArray, List.set_cons_zero, List.set_cons_succ]
  refine wpAnyH_take (i := 1) (v := ?v1) rfl (by kernel_rfl) (by kernel_rfl) (by kernel_rfl) (fun _ _ _ h => h) (Or.inl ⟨by rfl, ?y1⟩) (by assumption) ?r1
  case y1 =>
    intro w' hSw
    go_split_ands
    go_simp
    try with_reducible rfl
  try simp only [List.getElem_toArray, List.getElem_cons_zero, List.getElem_cons_succ, Act.put, List.setIfInBounds_toArray, List.set_cons_zero, List.set_cons_succ]
  refine wpAnyH_take (i := 2) (v := ?v2) rfl (by kernel_rfl) (by kernel_rfl) (by kernel_rfl) (fun _ _ _ h => h) (Or.inl ⟨by rfl, ?y2⟩) (by assumption) ?r2
  case y2 =>
    intro w' hSw
    go_split_ands
    go_simp
    try with_reducible rfl
  try simp only [List.getElem_toArray, List.getElem_cons_zero, List.getElem_cons_succ, Act.put, List.setIfInBounds_toArray, List.set_cons_zero, List.set_cons_succ]
  refine wpAnyH_take (i := 3) (v := ?v3) rfl (by kernel_rfl) (by kernel_rfl) (by kernel_rfl) (fun _ _ _ h => h) (Or.inl ⟨by rfl, ?y3⟩) (by assumption) ?r3
  case y3 =>
    intro w' hSw
    go_split_ands
    go_simp
    try with_reducible rfl
  try simp only [List.getElem_toArray, List.getElem_cons_zero, List.getElem_cons_succ, Act.put, List.setIfInBounds_toArray, List.set_cons_zero, List.set_cons_succ]
  refine wpAnyH_take (i := 4) (v := ?v4) rfl (by kernel_rfl) (by kernel_rfl) (by kernel_rfl) (fun _ _ _ h => h) (Or.inl ⟨by rfl, ?y4⟩) (by assumption) ?r4
  case y4 =>
    intro w' hSw
    go_split_ands
    go_simp
    try with_reducible rfl
  try simp only [List.getElem_toArray, List.getElem_cons_zero, List.getElem_cons_succ, Act.put, List.setIfInBounds_toArray, List.set_cons_zero, List.set_cons_succ]
  refine wpAnyH_take (i := 5) (v := ?v5) rfl (by kernel_rfl) (by kernel_rfl) (by kernel_rfl) (fun _ _ _ h => h) (Or.inl ⟨by rfl, ?y5⟩) (by assumption) ?r5
  case y5 =>
    intro w' hSw
    go_split_ands
    go_simp
    try with_reducible rfl
  try simp only [List.getElem_toArray, List.getElem_cons_zero, List.getElem_cons_succ, Act.put, List.setIfInBounds_toArray, List.set_cons_zero, List.set_cons_succ]
  refine wpAnyH_take (i := 6) (v := ?v6) rfl (by kernel_rfl) (by kernel_rfl) (by kernel_rfl) (fun _ _ _ h => h) (Or.inl ⟨by rfl, ?y6⟩) (by assumption) ?r6
  case y6 =>
    intro w' hSw
    go_split_ands
    go_simp
    try with_reducible rfl
  try simp only [List.getElem_toArray, List.getElem_cons_zero, List.getElem_cons_succ, Act.put, List.setIfInBounds_toArray, List.set_cons_zero, List.set_cons_succ]
  refine wpAnyH_take (i := 7) (v := ?v7) rfl (by kernel_rfl) (by kernel_rfl) (by kernel_rfl) (fun _ _ _ h => h) (Or.inl ⟨by rfl, ?y7⟩) (by assumption) ?r7
  case y7 =>
    intro w' hSw
    go_split_ands
    go_simp
    try with_reducible rfl
  try simp only [List.getElem_toArray, List.getElem_cons_zero, List.getElem_cons_succ, Act.put, List.setIfInBounds_toArray, List.set_cons_zero, List.set_cons_succ]
  refine wpAnyH_take (i := 8) (v := ?v8) rfl (by kernel_rfl) (by kernel_rfl) (by kernel_rfl) (fun _ _ _ h => h) (Or.inl ⟨by rfl, ?y8⟩) (by assumption) ?r8
  case y8 =>
    intro w' hSw
    go_split_ands
    go_simp
    try with_reducible rfl
  try simp only [List.getElem_toArray, List.getElem_cons_zero, List.getElem_cons_succ, Act.put, List.setIfInBounds_toArray, List.set_cons_zero, List.set_cons_succ]
  refine wpAnyH_take (i := 9) (v := ?v9) rfl (by kernel_rfl) (by kernel_rfl) (by kernel_rfl) (fun _ _ _ h => h) (Or.inl ⟨by rfl, ?y9⟩) (by assumption) ?r9
  case y9 =>
    intro w' hSw
    go_split_ands
    go_simp
    try with_reducible rfl
  try simp only [List.getElem_toArray, List.getElem_cons_zero, List.getElem_cons_succ, Act.put, List.setIfInBounds_toArray, List.set_cons_zero, List.set_cons_succ]
  refine wpAnyH_take (i := 10) (v := ?v10) rfl (by kernel_rfl) (by kernel_rfl) (by kernel_rfl) (fun _ _ _ h => h) (Or.inl ⟨by rfl, ?y10⟩) (by assumption) ?r10
  case y10 =>
    intro w' hSw
    go_split_ands
    go_simp
    try with_reducible rfl
  try simp only [List.getElem_toArray, List.getElem_cons_zero, List.getElem_cons_succ, Act.put, List.setIfInBounds_toArray, List.set_cons_zero, List.set_cons_succ]
  refine wpAnyH_take (i := 11) (v := ?v11) rfl (by kernel_rfl) (by kernel_rfl) (by kernel_rfl) (fun _ _ _ h => h) (Or.inl ⟨by rfl, ?y11⟩) (by assumption) ?r11
  case y11 =>
    intro w' hSw
    have hc := HCX.out w' hSw
    go_split_ands
    go_simp
    try with_reducible rfl
  try simp only [List.getElem_toArray, List.getElem_cons_zero, List.getElem_cons_succ, Act.put, List.setIfInBounds_toArray, List.set_cons_zero, List.set_cons_succ]
  refine wpAnyH_take (i := 12) (v := ?v12) rfl (by kernel_rfl) (by kernel_rfl) (by kernel_rfl) (fun _ _ _ h => h) (Or.inl ⟨by rfl, ?y12⟩) (by assumption) ?r12
  case y12 =>
    intro w' hSw
    go_split_ands
    go_simp
    try with_reducible rfl
  try simp only [List.getElem_toArray, List.getElem_cons_zero, List.getElem_cons_succ, Act.put, List.setIfInBounds_toArray, List.set_cons_zero, List.set_cons_succ]
  refine wpAnyH_take (i := 13) (v := ?v13) rfl (by kernel_rfl) (by kernel_rfl) (by kernel_rfl) (fun _ _ _ h => h) (Or.inl ⟨by rfl, ?y13⟩) (by assumption) ?r13
  case y13 =>
    intro w' hSw
    go_split_ands
    go_simp
    try with_reducible rfl
  try simp only [List.getElem_toArray, List.getElem_cons_zero, List.getElem_cons_succ, Act.put, List.setIfInBounds_toArray, List.set_cons_zero, List.set_cons_succ]
  refine wpAnyH_take (i := 14) (v := ?v14) rfl (by kernel_rfl) (by kernel_rfl) (by kernel_rfl) (fun _ _ _ h => h) (Or.inl ⟨by rfl, ?y14⟩) (by assumption) ?r14
  case y14 =>
    intro w' hSw
    go_split_ands
    go_simp
    try with_reducible rfl
  try simp only [List.getElem_toArray, List.getElem_cons_zero, List.getElem_cons_succ, Act.put, List.setIfInBounds_toArray, List.set_cons_zero, List.set_cons_succ]
  refine wpAnyH_ready (rs := [15]) (by kernel_rfl) (by simp) ?_
  refine AllReadyH.cons (i := 15) rfl (fun K hK => ?_) AllReadyH.nil
  go_simp
  go_at_call 24
  refine (HNO.out _).mono ?_
  rintro e w14 ⟨rfl, rfl⟩
  refine hK.out _ _ (HB13.out) (fun hHeld' => ?_)
  clear hHeld hK K
  have hHeld := hHeld'
  clear hHeld'
  try simp only [List.getElem_toArray, List.getElem_cons_zero, List.getElem_cons_succ, Act.put, List.setIfInBounds_toArray, List.set_cons_zero, List.set_cons_succ]
  refine wpAnyH_take (i := 16) (v := ?v15) rfl (by kernel_rfl) (by kernel_rfl) (by kernel_rfl) (fun _ _ _ h => h) (Or.inl ⟨by rfl, ?y15⟩) (by assumption) ?r15
  case y15 =>
    intro w' hSw
    go_split_ands
    go_simp
    try with_reducible rfl
  try simp only [List.getElem_toArray, List.getElem_cons_zero, List.getElem_cons_succ, Act.put, List.setIfInBounds_toArray, List.set_cons_zero, List.set_cons_succ]
  refine wpAnyH_take (i := 17) (v := ?v16) rfl (by kernel_rfl) (by kernel_rfl) (by kernel_rfl) (fun _ _ _ h => h) (Or.inl ⟨by rfl, ?y16⟩) (by assumption) ?r16
  case y16 =>
    intro w' hSw
    go_split_ands
    go_simp
    try with_reducible rfl
  try simp only [List.getElem_toArray, List.getElem_cons_zero, List.getElem_cons_succ, Act.put, List.setIfInBounds_toArray, List.set_cons_zero, List.set_cons_succ]
  refine wpAnyH_take (i := 18) (v := ?v17) rfl (by kernel_rfl) (by kernel_rfl) (by kernel_rfl) (fun _ _ _ h => h) (Or.inl ⟨by rfl, ?y17⟩) (by assumption) ?r17
  case y17 =>
    intro w' hSw
    go_split_ands
    go_simp
    try with_reducible rfl
  try simp only [List.getElem_toArray, List.getElem_cons_zero, List.getElem_cons_succ, Act.put, List.setIfInBounds_toArray, List.set_cons_zero, List.set_cons_succ]
  refine wpAnyH_take (i := 19) (v := ?v18) rfl (by kernel_rfl) (by kernel_rfl) (by kernel_rfl) (fun _ _ _ h => h) (Or.inl ⟨by rfl, ?y18⟩) (by assumption) ?r18
  case y18 =>
    intro w' hSw
    go_split_ands
    go_simp
    try with_reducible rfl
  try simp only [List.getElem_toArray, List.getElem_cons_zero, List.getElem_cons_succ, Act.put, List.setIfInBounds_toArray, List.set_cons_zero, List.set_cons_succ]
  refine wpAnyH_take (i := 20) (v := ?v19) rfl (by kernel_rfl) (by kernel_rfl) (by kernel_rfl) (fun _ _ _ h => h) (Or.inl ⟨by rfl, ?y19⟩) (by assumption) ?r19
  case y19 =>
    intro w' hSw
    go_split_ands
    go_simp
    try with_reducible rfl
  try simp only [List.getElem_toArray, List.getElem_cons_zero, List.getElem_cons_succ, Act.put, List.setIfInBounds_toArray, List.set_cons_zero, List.set_cons_succ]
  refine wpAnyH_take (i := 21) (v := ?v20) rfl (by kernel_rfl) (by kernel_rfl) (by kernel_rfl) (fun _ _ _ h => h) (Or.inl ⟨by rfl, ?y20⟩) (by assumption) ?r20
  case y20 =>
    intro w' hSw
    go_split_ands
    go_simp
    try with_reducible rfl
  try simp only [List.getElem_toArray, List.getElem_cons_zero, List.getElem_cons_succ, Act.put, List.setIfInBounds_toArray, List.set_cons_zero, List.set_cons_succ]
  refine wpAnyH_take (i := 22) (v := ?v21) rfl (by kernel_rfl) (by kernel_rfl) (by kernel_rfl) (fun _ _ _ h => h) (Or.inl ⟨by rfl, ?y21⟩) (by assumption) ?r21
  case y21 =>
    intro w' hSw
    go_split_ands
    go_simp
    try with_reducible rfl
  try simp only [List.getElem_toArray, List.getElem_cons_zero, List.getElem_cons_succ, Act.put, List.setIfInBounds_toArray, List.set_cons_zero, List.set_cons_succ]
  refine wpAnyH_take (i := 23) (v := ?v22) rfl (by kernel_rfl) (by kernel_rfl) (by kernel_rfl) (fun _ _ _ h => h) (Or.inl ⟨by rfl, ?y22⟩) (by assumption) ?r22
  case y22 =>
    intro w' hSw
    go_split_ands
    go_simp
    try with_reducible rfl
  try simp only [List.getElem_toArray, List.getElem_cons_zero, List.getElem_cons_succ, Act.put, List.setIfInBounds_toArray, List.set_cons_zero, List.set_cons_succ]
  refine wpAnyH_take (i := 24) (v := ?v23) rfl (by kernel_rfl) (by kernel_rfl) (by kernel_rfl) (fun _ _ _ h => h) (Or.inl ⟨by rfl, ?y23⟩) (by assumption) ?r23
  case y23 =>
    intro w' hSw
    go_split_ands
    go_simp
    try with_reducible rfl
  try simp only [List.getElem_toArray, List.getElem_cons_zero, List.getElem_cons_succ, Act.put, List.setIfInBounds_toArray, List.set_cons_zero, List.set_cons_succ]
  refine wpAnyH_take (i := 25) (v := ?v24) rfl (by kernel_rfl) (by kernel_rfl) (by kernel_rfl) (fun _ _ _ h => h) (Or.inl ⟨by rfl, ?y24⟩) (by assumption) ?r24
  case y24 =>
    intro w' hSw
    go_split_ands
    go_simp
    try with_reducible rfl
  try simp only [List.getElem_toArray, List.getElem_cons_zero, List.getElem_cons_succ, Act.put, List.setIfInBounds_toArray, List.set_cons_zero, List.set_cons_succ]
  refine wpAnyH_take (i := 26) (v := ?v25) rfl (by kernel_rfl) (by kernel_rfl) (by kernel_rfl) (fun _ _ _ h => h) (Or.inl ⟨by rfl, ?y25⟩) (by assumption) ?r25
  case y25 =>
    intro w' hSw
    go_split_ands
    go_simp
    try with_reducible rfl
  try simp only [List.getElem_toArray, List.getElem_cons_zero, List.getElem_cons_succ, Act.put, List.setIfInBounds_toArray, List.set_cons_zero, List.set_cons_succ]
  refine wpAnyH_take (i := 27) (v := ?v26) rfl (by kernel_rfl) (by kernel_rfl) (by kernel_rfl) (fun _ _ _ h => h) (Or.inl ⟨by rfl, ?y26⟩) (by assumption) ?r26
  case y26 =>
    intro w' hSw
    go_split_ands
    go_simp
    try with_reducible rfl
  try simp only [List.getElem_toArray, List.getElem_cons_zero, List.getElem_cons_succ, Act.put, List.setIfInBounds_toArray, List.set_cons_zero, List.set_cons_succ]
  refine wpAnyH_take (i := 28) (v := ?v27) rfl (by kernel_rfl) (by kernel_rfl) (by kernel_rfl) (fun _ _ _ h => h) (Or.inl ⟨by rfl, ?y27⟩) (by assumption) ?r27
  case y27 =>
    intro w' hSw
    go_split_ands
    go_simp
    try with_reducible rfl
  try simp only [List.getElem_toArray, List.getElem_cons_zero, List.getElem_cons_succ, Act.put, List.setIfInBounds_toArray, List.set_cons_zero, List.set_cons_succ]
  refine wpAnyH_take (i := 29) (v := ?v28) rfl (by kernel_rfl) (by kernel_rfl) (by kernel_rfl) (fun _ _ _ h => h) (Or.inl ⟨by rfl, ?y28⟩) (by assumption) ?r28
  case y28 =>
    intro w' hSw
    go_split_ands
    go_simp
    try with_reducible rfl
  try simp only [List.getElem_toArray, List.getElem_cons_zero, List.getElem_cons_succ, Act.put, List.setIfInBounds_toArray, List.set_cons_zero, List.set_cons_succ]
  refine wpAnyH_take (i := 30) (v := ?v29) rfl (by kernel_rfl) (by kernel_rfl) (by kernel_rfl) (fun _ _ _ h => h) (Or.inl ⟨by rfl, ?y29⟩) (by assumption) ?r29
  case y29 =>
    intro w' hSw
    go_split_ands
    go_simp
    try with_reducible rfl
  try simp only [List.getElem_toArray, List.getElem_cons_zero, List.getElem_cons_succ, Act.put, List.setIfInBounds_toArray, List.set_cons_zero, List.set_cons_succ]
  refine wpAnyH_take (i := 31) (v := ?v30) rfl (by kernel_rfl) (by kernel_rfl) (by kernel_rfl) (fun _ _ _ h => h) (Or.inl ⟨by rfl, ?y30⟩) (by assumption) ?r30
  case y30 =>
    intro w' hSw
    go_split_ands
    go_simp
    try with_reducible rfl
  try simp only [List.getElem_toArray, List.getElem_cons_zero, List.getElem_cons_succ, Act.put, List.setIfInBounds_toArray, List.set_cons_zero, List.set_cons_succ]
  refine wpAnyH_take (i := 32) (v := ?v31) rfl (by kernel_rfl) (by kernel_rfl) (by kernel_rfl) (fun _ _ _ h => h) (Or.inl ⟨by rfl, ?y31⟩) (by assumption) ?r31
  case y31 =>
    intro w' hSw
    go_split_ands
    go_simp
    try with_reducible rfl
  try simp only [List.getElem_toArray, List.getElem_cons_zero, List.getElem_cons_succ, Act.put, List.setIfInBounds_toArray, List.set_cons_zero, List.set_cons_succ]
  refine wpAnyH_take (i := 33) (v := ?v32) rfl (by kernel_rfl) (by kernel_rfl) (by kernel_rfl) (fun _ _ _ h => h) (Or.inl ⟨by rfl, ?y32⟩) (by assumption) ?r32
  case y32 =>
    intro w' hSw
    go_split_ands
    go_simp
    try with_reducible rfl
  try simp only [List.getElem_toArray, List.getElem_cons_zero, List.getElem_cons_succ, Act.put, List.setIfInBounds_toArray, List.set_cons_zero, List.set_cons_succ]
  refine wpAnyH_take (i := 34) (v := ?v33) rfl (by kernel_rfl) (by kernel_rfl) (by kernel_rfl) (fun _ _ _ h => h) (Or.inl ⟨by rfl, ?y33⟩) (by assumption) ?r33
  case y33 =>
    intro w' hSw
    go_split_ands
    go_simp
    try with_reducible rfl
  try simp only [List.getElem_toArray, List.getElem_cons_zero, List.getElem_cons_succ, Act.put, List.setIfInBounds_toArray, List.set_cons_zero, List.set_cons_succ]
  refine wpAnyH_take (i := 35) (v := ?v34) rfl (by kernel_rfl) (by kernel_rfl) (by kernel_rfl) (fun _ _ _ h => h) (Or.inl ⟨by rfl, ?y34⟩) (by assumption) ?r34
  case y34 =>
    intro w' hSw
    go_split_ands
    go_simp
    try with_reducible rfl
  try simp only [List.getElem_toArray, List.getElem_cons_zero, List.getElem_cons_succ, Act.put, List.setIfInBounds_toArray, List.set_cons_zero, List.set_cons_succ]
  refine wpAnyH_take (i := 36) (v := ?v35) rfl (by kernel_rfl) (by kernel_rfl) (by kernel_rfl) (fun _ _ _ h => h) (Or.inl ⟨by rfl, ?y35⟩) (by assumption) ?r35
  case y35 =>
    intro w' hSw
    go_split_ands
    go_simp
    try with_reducible rfl
  try simp only [List.getElem_toArray, List.getElem_cons_zero, List.getElem_cons_succ, Act.put, List.setIfInBounds_toArray, List.set_cons_zero, List.set_cons_succ]
  refine wpAnyH_take (i := 37) (v := ?v36) rfl (by kernel_rfl) (by kernel_rfl) (by kernel_rfl) (fun _ _ _ h => h) (Or.inl ⟨by rfl, ?y36⟩) (by assumption) ?r36
  case y36 =>
    intro w' hSw
    go_split_ands
    go_simp
    try with_reducible rfl
  try simp only [List.getElem_toArray, List.getElem_cons_zero, List.getElem_cons_succ, Act.put, List.setIfInBounds_toArray, List.set_cons_zero, List.set_cons_succ]
  refine wpAnyH_take (i := 38) (v := ?v37) rfl (by kernel_rfl) (by kernel_rfl) (by kernel_rfl) (fun _ _ _ h => h) (Or.inl ⟨by rfl, ?y37⟩) (by assumption) ?r37
  case y37 =>
    intro w' hSw
    go_split_ands
    go_simp
    try with_reducible rfl
  try simp only [List.getElem_toArray, List.getElem_cons_zero, List.getElem_cons_succ, Act.put, List.setIfInBounds_toArray, List.set_cons_zero, List.set_cons_succ]
  refine wpAnyH_take (i := 39) rfl (by kernel_rfl) (by kernel_rfl) (by kernel_rfl) (fun _ _ _ h => h) (yieldsIf_load_mid (by rfl) 32 (.tmp 10) rfl _ _ rfl (ZA.toList) _ (fun _ h => HRG.out _ h) Tryd.underlying32 rfl (HIL.out)) (by assumption) ?_
  try simp only [List.getElem_toArray, List.getElem_cons_zero, List.getElem_cons_succ, Act.put, List.setIfInBounds_toArray, List.set_cons_zero, List.set_cons_succ]
  refine wpAnyH_ready (rs := [40]) (by kernel_rfl) (by simp) ?_
  refine AllReadyH.cons (i := 40) rfl (fun K hK => ?_) AllReadyH.nil
  go_simp
  refine hK.out _ _ (HB13.out.alloc HB13.out.size _) (fun hHeld' => ?_)
  clear hHeld hK K
  have hHeld := hHeld'
  clear hHeld'
  try simp only [List.getElem_toArray, List.getElem_cons_zero, List.getElem_cons_succ, Act.put, List.setIfInBounds_toArray, List.set_cons_zero, List.set_cons_succ]
  refine wpAnyH_ready (rs := [41]) (by kernel_rfl) (by simp) ?_
  refine AllReadyH.cons (i := 41) rfl (fun K hK => ?_) AllReadyH.nil
  have kc := konst_conv [97, 98, 99] w13 3
  rw [show bytes [97, 98, 99] = #[.int .u8 97, .int .u8 98, .int .u8 99] from rfl] at kc
  go_simp
  clear kc
  have HKO := Lib.hid (konst_sl w13 [97, 98, 99] (by simp))
  have HKB := Lib.hid (HB13.out.trans ((konst_below w13 [97, 98, 99]).mono HB13.out.size))
  generalize konst w13 [97, 98, 99] = w15 at *
  refine hK.out _ _ (HKB.out) (fun hHeld' => ?_)
  clear hHeld hK K
  have hHeld := hHeld'
  clear hHeld'
  try simp only [List.getElem_toArray, List.getElem_cons_zero, List.getElem_cons_succ, Act.put, List.setIfInBounds_toArray, List.set_cons_zero, List.set_cons_succ]
  refine wpAnyH_ready (rs := [42]) (by kernel_rfl) (by simp) ?_
  refine AllReadyH.cons (i := 42) rfl (fun K hK => ?_) AllReadyH.nil
  go_simp
  go_at_call 27
  refine (HSU.out _ _ HKO.out (HBX.out.trans (HKB.out.mono HBX.out.size))).mono ?_
  rintro e w16 ⟨rfl, hb⟩
  have HBf := Lib.hid (HKB.out.trans (hb.mono HKB.out.size))
  clear hb
  refine hK.out _ _ (HBf.out) (fun hHeld' => ?_)
  clear hHeld hK K
  have hHeld := hHeld'
  clear hHeld'
  try simp only [List.getElem_toArray, List.getElem_cons_zero, List.getElem_cons_succ, Act.put, List.setIfInBounds_toArray, List.set_cons_zero, List.set_cons_succ]
  refine wpAnyH_take (i := 43) (v := ?v38) rfl (by kernel_rfl) (by kernel_rfl) (by kernel_rfl) (fun _ _ _ h => h) (Or.inl ⟨by rfl, ?y38⟩) (by assumption) ?r38
  case y38 =>
    intro w' hSw
    go_split_ands
    go_simp
    try with_reducible rfl
  try simp only [List.getElem_toArray, List.getElem_cons_zero, List.getElem_cons_succ, Act.put, List.setIfInBounds_toArray, List.set_cons_zero, List.set_cons_succ]
  refine wpAnyH_take (i := 44) (v := ?v39) rfl (by kernel_rfl) (by kernel_rfl) (by kernel_rfl) (fun _ _ _ h => h) (Or.inl ⟨by rfl, ?y39⟩) (by assumption) ?r39
  case y39 =>
    intro w' hSw
    go_split_ands
    go_simp
    try with_reducible rfl
  try simp only [List.getElem_toArray, List.getElem_cons_zero, List.getElem_cons_succ, Act.put, List.setIfInBounds_toArray, List.set_cons_zero, List.set_cons_succ]
  refine wpAnyH_take (i := 45) (v := ?v40) rfl (by kernel_rfl) (by kernel_rfl) (by kernel_rfl) (fun _ _ _ h => h) (Or.inl ⟨by rfl, ?y40⟩) (by assumption) ?r40
  case y40 =>
    intro w' hSw
    go_split_ands
    go_simp
    try with_reducible rfl
  try simp only [List.getElem_toArray, List.getElem_cons_zero, List.getElem_cons_succ, Act.put, List.setIfInBounds_toArray, List.set_cons_zero, List.set_cons_succ]
  refine wpAnyH_done (by kernel_rfl) ?_ _
  -- REG K END
  go_wp2
  go_ret
  exact ⟨rfl, HBX.out.trans (HBf.out.mono HBX.out.size)⟩
end Go.Proofs.YtnoilogepkelaaaDoor
