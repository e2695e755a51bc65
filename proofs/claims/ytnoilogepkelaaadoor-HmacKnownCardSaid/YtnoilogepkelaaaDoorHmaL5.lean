/-
  The law HmacKnown: its walk.
-/
import Derived.Test.YtnoilogepkelaaaDoorHmaL4
namespace Go.Proofs.YtnoilogepkelaaaDoor
set_option linter.unusedVariables false
set_option linter.unusedSimpArgs false
open Go Go.RowKit
def hiT : List (BitVec 8) := [72, 105, 32, 84, 104, 101, 114, 101]
def hxA : List (BitVec 8) := [98, 48, 51, 52, 52, 99, 54, 49, 100, 56, 100, 98, 51, 56, 53, 51, 53, 99, 97, 56, 97, 102, 99, 101, 97, 102, 48, 98, 102, 49, 50, 98, 56, 56, 49, 100, 99, 50, 48, 48, 99, 57, 56, 51, 51, 100, 97, 55, 50, 54, 101, 57, 51, 55, 54, 99, 50, 101, 51, 50, 99, 102, 102, 55]
def hxB : List (BitVec 8) := [53, 98, 100, 99, 99, 49, 52, 54, 98, 102, 54, 48, 55, 53, 52, 101, 54, 97, 48, 52, 50, 52, 50, 54, 48, 56, 57, 53, 55, 53, 99, 55, 53, 97, 48, 48, 51, 102, 48, 56, 57, 100, 50, 55, 51, 57, 56, 51, 57, 100, 101, 99, 53, 56, 98, 57, 54, 52, 101, 99, 51, 56, 52, 51]
set_option maxRecDepth 100000 in
theorem tag_hi : Hma.tag (List.replicate 20 11) hiT = hexN hxA 32 := by decide +kernel
set_option maxRecDepth 100000 in
theorem tag_hexB : Hma.tag jefe ya = hexN hxB 32 := by rw [tag_jefe]; decide +kernel
theorem hxA_str : (.string { data := #[98, 48, 51, 52, 52, 99, 54, 49, 100, 56, 100, 98, 51, 56, 53, 51, 53, 99, 97, 56, 97, 102, 99, 101, 97, 102, 48, 98, 102, 49, 50, 98, 56, 56, 49, 100, 99, 50, 48, 48, 99, 57, 56, 51, 51, 100, 97, 55, 50, 54, 101, 57, 51, 55, 54, 99, 50, 101, 51, 50, 99, 102, 102, 55] } : Value) = .string (strB hxA) := by kernel_rfl
theorem hxB_str : (.string { data := #[53, 98, 100, 99, 99, 49, 52, 54, 98, 102, 54, 48, 55, 53, 52, 101, 54, 97, 48, 52, 50, 52, 50, 54, 48, 56, 57, 53, 55, 53, 99, 55, 53, 97, 48, 48, 51, 102, 48, 56, 57, 100, 50, 55, 51, 57, 56, 51, 57, 100, 101, 99, 53, 56, 98, 57, 54, 52, 101, 99, 51, 56, 52, 51] } : Value) = .string (strB hxB) := by kernel_rfl

set_option maxRecDepth 100000 in
set_option maxHeartbeats 4000000 in
theorem law_hmacKnown (w : World) (hG : Glob w) : Calls Tryd.prog 13 #[] w fun e w' => e = .returned (.bool true) ∧ Below w.heap.size w w' := by
  have hgz := hG.size
  have HAW := Lib.hid (fun W (hB : Below w.heap.size w W) => hworks_any W (hG.below hB hgz))
  have HM1 := Lib.hid (fun v0 v1 W (h0 : SlB W v0 (List.replicate 20 11)) (h1 : SlB W v1 hiT) (hB : Below w.heap.size w W) => hmac_any (List.replicate 20 11) hiT v0 v1 W h0 h1 (by simp) (by simp [hiT]) (hG.below hB hgz))
  have HM2 := Lib.hid (fun v0 v1 W (h0 : SlB W v0 jefe) (h1 : SlB W v1 ya) (hB : Below w.heap.size w W) => hmac_any jefe ya v0 v1 W h0 h1 (by simp [jefe]) (by simp [ya]) (hG.below hB hgz))
  have HHA := Lib.hid (fun W => hex_any hxA rfl W)
  have HHB := Lib.hid (fun W => hex_any hxB rfl W)
  rw [← hxA_str] at HHA
  rw [← hxB_str] at HHB
  rw [tag_hi] at HM1
  rw [tag_hexB] at HM2
  have kc0 := fun W => konst_conv hiT W 8
  have kc1 := fun W => konst_conv jefe W 4
  have kc2 := fun W => konst_conv ya W 28
  rw [show bytes hiT = #[.int .u8 72, .int .u8 105, .int .u8 32, .int .u8 84, .int .u8 104, .int .u8 101, .int .u8 114, .int .u8 101] from rfl] at kc0
  rw [show bytes jefe = #[.int .u8 74, .int .u8 101, .int .u8 102, .int .u8 101] from rfl] at kc1
  rw [show bytes ya = #[.int .u8 119, .int .u8 104, .int .u8 97, .int .u8 116, .int .u8 32, .int .u8 100, .int .u8 111, .int .u8 32, .int .u8 121, .int .u8 97, .int .u8 32, .int .u8 119, .int .u8 97, .int .u8 110, .int .u8 116, .int .u8 32, .int .u8 102, .int .u8 111, .int .u8 114, .int .u8 32, .int .u8 110, .int .u8 111, .int .u8 116, .int .u8 104, .int .u8 105, .int .u8 110, .int .u8 103, .int .u8 63] from rfl] at kc2
  obtain ⟨A, hA⟩ : ∃ A, hexN hxA 32 = A := ⟨_, rfl⟩
  obtain ⟨B, hB⟩ : ∃ B, hexN hxB 32 = B := ⟨_, rfl⟩
  have HAL := Lib.hid (show A.length = 32 by rw [← hA]; exact hexN_length _ _)
  have HBL := Lib.hid (show B.length = 32 by rw [← hB]; exact hexN_length _ _)
  rw [hA] at HHA HM1
  rw [hB] at HHB HM2
  have HIH := Lib.hid (fun (xs : List (BitVec 8)) (h : xs.length = 32) => (show (Tryd.prog.info? 32).map (·.size) = some (bytes xs).size by rw [bytes_size, h]; kernel_rfl))
  have HRS := Lib.hid (fun (k : Nat) => (show List.replicate (k + 1) (11 : BitVec 8) = List.replicate k 11 ++ [11] from List.replicate_succ'))
  obtain ⟨SA, hSA⟩ : ∃ SA, strB A = SA := ⟨_, rfl⟩
  obtain ⟨SB, hSB⟩ : ∃ SB, strB B = SB := ⟨_, rfl⟩
  have HSA := Lib.hid hSA
  have HSB := Lib.hid hSB
  clear hG hA hB hSA hSB
  go_enter Tryd.func13, Tryd.ntmps13
  go_wp2
  go_loopw [1, 2] (fun s1 s2 wr => ∃ k : Nat, k ≤ 20 ∧ s2 = .int .i64 k ∧ Hid (OwnB 5 w.heap.size wr s1 (List.replicate k 11)) ∧ Hid (Below w.heap.size w wr)) (fun _ s2 _ => 20 - (intOf s2).toNat)
  case atStart => exact ⟨0, by omega, rfl, OwnB.nil _ _ _, Below.refl _ _⟩
  case round =>
    obtain ⟨k, hk, rfl, HO, HB⟩ := hrel
    have hsz := HB.out.size
    by_cases hlt : k < 20
    · clear kc0 kc1 kc2
      go_wp2_with (at_builtin; refine wpList_append_b rfl (.tmp 9) (.tmp 10) 22 5 rfl Tryd.underlying22 info_u8 w.heap.size _ _ (HO.out.alloc _) rfl _ [11] (one_new' _ _ _ rfl) rfl (by simp; omega) (by simp; omega) ?_; intro v3 w3 ho hg hn'; rw [← HRS.out] at ho; have HO3 := Lib.hid ho; have HB3 := Lib.hid ((HB.out.alloc hsz _).grown hg (by simp; omega) (fun k e => (World.ownsRow.lt HO.out k e).1)); clear ho hg hn')
      exact ⟨⟨k + 1, by omega, by go_num, HO3, HB3⟩, by simp [intOf]; omega⟩
    · obtain rfl : k = 20 := by omega
      go_upto_region 7 with (first
        | (go_at_call 41; refine (HM1.out _ _ _ (HO.out.sl.below (konst_below wr hiT) (Nat.le_refl _)) (konst_sl wr hiT (by simp [hiT])) (HB.out.trans ((konst_below wr hiT).mono hsz))).mono ?_; rintro e w4 ⟨rfl, hb⟩; have HB4 := Lib.hid ((HB.out.trans ((konst_below wr hiT).mono hsz)).trans (hb.mono (by simp only [konst_size]; omega))); clear hb)
        | (refine wpList_store_row rfl 32 (.tmp 3) (.tmp 15) rfl _ _ rfl rfl _ _ (heap_alloc_new _ _) (HIH.out _ HAL.out) (by rw [bytes_size, HAL.out]; rfl) (bytes_one _) ?_; rw [World.setRow_alloc_new]))
      obtain ⟨X, hX, hBX, hXs, hX0⟩ := alloc1 w4 (.cells (bytes A) 32)
      rw [hX]
      have hz4 := HB4.out.size
      have HBX := Lib.hid (HB4.out.trans (hBX.mono hz4))
      have HX0 := Lib.hid hX0
      clear hX hBX hXs hX0 hz4
      have hsx := HBX.out.size
      go_upto_region 8 with (first
        | (go_at_call 41; refine (HM2.out _ _ _ ((konst_sl X jefe (by simp [jefe])).below (konst_below _ ya) (Nat.le_refl _)) (konst_sl _ ya (by simp [ya])) (HBX.out.trans (((konst_below X jefe).trans ((konst_below _ ya).mono (konst_below X jefe).size)).mono hsx))).mono ?_; rintro e w5 ⟨rfl, hb⟩; have HB5 := Lib.hid (((konst_below X jefe).trans ((konst_below (konst X jefe) ya).mono (konst_below X jefe).size)).trans (hb.mono (by simp only [konst_size]; omega))); clear hb)
        | (refine wpList_store_row rfl 32 (.tmp 4) (.tmp 20) rfl _ _ rfl rfl _ _ (heap_alloc_new _ _) (HIH.out _ HBL.out) (by rw [bytes_size, HBL.out]; rfl) (bytes_one _) ?_; rw [World.setRow_alloc_new]))
      obtain ⟨Y, hY, hBY, hYs, hY0⟩ := alloc1 w5 (.cells (bytes B) 32)
      rw [hY]
      have hb5 := HB5.out.trans (hBY.mono HB5.out.size)
      have HBY := Lib.hid (HBX.out.trans (hb5.mono hsx))
      have hxa := (hb5.block _ (Array.getElem?_eq_some_iff.1 HX0.out).1).trans HX0.out
      have HSLA := Lib.hid (fun W (hW : Below Y.heap.size Y W) => (show SlB W (.slice (some ⟨w4.heap.size, 0, none⟩) 32 32) A from sl_arr A ((hW.block _ (Array.getElem?_eq_some_iff.1 hxa).1).trans hxa) HAL.out.symm (by rw [HAL.out]; omega)))
      have HSLB := Lib.hid (fun W (hW : Below Y.heap.size Y W) => (show SlB W (.slice (some ⟨w5.heap.size, 0, none⟩) 32 32) B from sl_arr B ((hW.block _ (Array.getElem?_eq_some_iff.1 hY0).1).trans hY0) HBL.out.symm (by rw [HBL.out]; omega)))
      clear hY hBY hYs hY0 hb5 hxa kc0 kc1 kc2 HB4 HB5 HBX HX0 HM1 HM2 HO HB
      -- REG K BEGIN
      refine wp_region_held_drew (S := fun W => Below Y.heap.size Y W) (by kernel_rfl) ((Below.refl _ Y).drew) (fun hHeld => ?_)
      refine wpAnyH_take (i := 0) (v := ?v1) rfl (by kernel_rfl) (by kernel_rfl) (by kernel_rfl) (fun _ _ _ h => h) (Or.inl ⟨by rfl, ?y1⟩) (by assumption) ?r1
      case y1 =>
        intro w' hSw
        go_split_ands
        go_simp
        try with_reducible rfl
      try simp only [List.getElem_toArray, List.getElem_cons_zero, List.getElem_cons_succ, Act.put, List.setIfInBounds_toArray, List.set_cons_zero, List.set_cons_succ]
      refine wpAnyH_take (i := 1) (v := ?v2) rfl (by kernel_rfl) (by kernel_rfl) (by kernel_rfl) (fun _ _ _ h => h) (Or.inl ⟨by rfl, ?y2⟩) (by assumption) ?r2
      case y2 =>
        intro w' hSw
        have kc := conv_any (HSLA.out w' hSw)
        rw [HSA.out] at kc
        go_split_ands
        go_simp
        try with_reducible rfl
      try simp only [List.getElem_toArray, List.getElem_cons_zero, List.getElem_cons_succ, Act.put, List.setIfInBounds_toArray, List.set_cons_zero, List.set_cons_succ]
      refine wpAnyH_ready (rs := [2]) (by kernel_rfl) (by simp) ?_
      refine AllReadyH.cons (i := 2) rfl (fun K hK => ?_) AllReadyH.nil
      go_simp
      go_at_call 44
      refine (HHA.out _).mono ?_
      rintro e w6 ⟨v6, rfl, ho, hb⟩
      have HO6 := Lib.hid ho.sl
      have HB6 := Lib.hid (show Below Y.heap.size Y w6 from (Below.refl _ Y).drew.trans hb)
      clear ho hb
      refine hK.out _ _ (HB6.out) (fun hHeld' => ?_)
      clear hHeld hK K
      have hHeld := hHeld'
      clear hHeld'
      try simp only [List.getElem_toArray, List.getElem_cons_zero, List.getElem_cons_succ, Act.put, List.setIfInBounds_toArray, List.set_cons_zero, List.set_cons_succ]
      refine wpAnyH_ready (rs := [3]) (by kernel_rfl) (by simp) ?_
      refine AllReadyH.cons (i := 3) rfl (fun K hK => ?_) AllReadyH.nil
      have kc := conv_any HO6.out
      rw [HSA.out] at kc
      go_simp
      clear kc
      refine hK.out _ _ (HB6.out) (fun hHeld' => ?_)
      clear hHeld hK K
      have hHeld := hHeld'
      clear hHeld'
      try simp only [List.getElem_toArray, List.getElem_cons_zero, List.getElem_cons_succ, Act.put, List.setIfInBounds_toArray, List.set_cons_zero, List.set_cons_succ]
      refine wpAnyH_take (i := 4) (v := ?v3) rfl (by kernel_rfl) (by kernel_rfl) (by kernel_rfl) (fun _ _ _ h => h) (Or.inl ⟨by rfl, ?y3⟩) (by assumption) ?r3
      case y3 =>
        intro w' hSw
        go_split_ands
        go_simp
        try with_reducible rfl
      try simp only [List.getElem_toArray, List.getElem_cons_zero, List.getElem_cons_succ, Act.put, List.setIfInBounds_toArray, List.set_cons_zero, List.set_cons_succ]
      refine wpAnyH_take (i := 5) (v := ?v4) rfl (by kernel_rfl) (by kernel_rfl) (by kernel_rfl) (fun _ _ _ h => h) (Or.inl ⟨by rfl, ?y4⟩) (by assumption) ?r4
      case y4 =>
        intro w' hSw
        go_split_ands
        go_simp
        try with_reducible rfl
      try simp only [List.getElem_toArray, List.getElem_cons_zero, List.getElem_cons_succ, Act.put, List.setIfInBounds_toArray, List.set_cons_zero, List.set_cons_succ]
      refine wpAnyH_take (i := 6) (v := ?v5) rfl (by kernel_rfl) (by kernel_rfl) (by kernel_rfl) (fun _ _ _ h => h) (Or.inl ⟨by rfl, ?y5⟩) (by assumption) ?r5
      case y5 =>
        intro w' hSw
        go_split_ands
        go_simp
        try with_reducible rfl
      try simp only [List.getElem_toArray, List.getElem_cons_zero, List.getElem_cons_succ, Act.put, List.setIfInBounds_toArray, List.set_cons_zero, List.set_cons_succ]
      refine wpAnyH_take (i := 7) (v := ?v6) rfl (by kernel_rfl) (by kernel_rfl) (by kernel_rfl) (fun _ _ _ h => h) (Or.inl ⟨by rfl, ?y6⟩) (by assumption) ?r6
      case y6 =>
        intro w' hSw
        have kc := conv_any (HSLB.out w' hSw)
        rw [HSB.out] at kc
        go_split_ands
        go_simp
        try with_reducible rfl
      try simp only [List.getElem_toArray, List.getElem_cons_zero, List.getElem_cons_succ, Act.put, List.setIfInBounds_toArray, List.set_cons_zero, List.set_cons_succ]
      refine wpAnyH_ready (rs := [8]) (by kernel_rfl) (by simp) ?_
      refine AllReadyH.cons (i := 8) rfl (fun K hK => ?_) AllReadyH.nil
      go_simp
      go_at_call 44
      refine (HHB.out _).mono ?_
      rintro e w7 ⟨v7, rfl, ho, hb⟩
      have HO7 := Lib.hid ho.sl
      have HB7 := Lib.hid (HB6.out.trans (hb.mono HB6.out.size))
      clear ho hb
      refine hK.out _ _ (HB7.out) (fun hHeld' => ?_)
      clear hHeld hK K
      have hHeld := hHeld'
      clear hHeld'
      try simp only [List.getElem_toArray, List.getElem_cons_zero, List.getElem_cons_succ, Act.put, List.setIfInBounds_toArray, List.set_cons_zero, List.set_cons_succ]
      refine wpAnyH_ready (rs := [9]) (by kernel_rfl) (by simp) ?_
      refine AllReadyH.cons (i := 9) rfl (fun K hK => ?_) AllReadyH.nil
      have kc := conv_any HO7.out
      rw [HSB.out] at kc
      go_simp
      clear kc
      refine hK.out _ _ (HB7.out) (fun hHeld' => ?_)
      clear hHeld hK K
      have hHeld := hHeld'
      clear hHeld'
      try simp only [List.getElem_toArray, List.getElem_cons_zero, List.getElem_cons_succ, Act.put, List.setIfInBounds_toArray, List.set_cons_zero, List.set_cons_succ]
      refine wpAnyH_take (i := 10) (v := ?v7) rfl (by kernel_rfl) (by kernel_rfl) (by kernel_rfl) (fun _ _ _ h => h) (Or.inl ⟨by rfl, ?y7⟩) (by assumption) ?r7
      case y7 =>
        intro w' hSw
        go_split_ands
        go_simp
        try with_reducible rfl
      try simp only [List.getElem_toArray, List.getElem_cons_zero, List.getElem_cons_succ, Act.put, List.setIfInBounds_toArray, List.set_cons_zero, List.set_cons_succ]
      refine wpAnyH_take (i := 11) (v := ?v8) rfl (by kernel_rfl) (by kernel_rfl) (by kernel_rfl) (fun _ _ _ h => h) (Or.inl ⟨by rfl, ?y8⟩) (by assumption) ?r8
      case y8 =>
        intro w' hSw
        go_split_ands
        go_simp
        try with_reducible rfl
      try simp only [List.getElem_toArray, List.getElem_cons_zero, List.getElem_cons_succ, Act.put, List.setIfInBounds_toArray, List.set_cons_zero, List.set_cons_succ]
      refine wpAnyH_take (i := 12) (v := ?v9) rfl (by kernel_rfl) (by kernel_rfl) (by kernel_rfl) (fun _ _ _ h => h) (Or.inl ⟨by rfl, ?y9⟩) (by assumption) ?r9
      case y9 =>
        intro w' hSw
        go_split_ands
        go_simp
        try with_reducible rfl
      try simp only [List.getElem_toArray, List.getElem_cons_zero, List.getElem_cons_succ, Act.put, List.setIfInBounds_toArray, List.set_cons_zero, List.set_cons_succ]
      refine wpAnyH_ready (rs := [13]) (by kernel_rfl) (by simp) ?_
      refine AllReadyH.cons (i := 13) rfl (fun K hK => ?_) AllReadyH.nil
      go_simp
      go_at_call 42
      refine (HAW.out _ (HBY.out.trans (HB7.out.mono HBY.out.size))).mono ?_
      rintro e w8 ⟨rfl, hb⟩
      have HBf := Lib.hid (HB7.out.trans (hb.mono HB7.out.size))
      clear hb
      refine hK.out _ _ (HBf.out) (fun hHeld' => ?_)
      clear hHeld hK K
      have hHeld := hHeld'
      clear hHeld'
      try simp only [List.getElem_toArray, List.getElem_cons_zero, List.getElem_cons_succ, Act.put, List.setIfInBounds_toArray, List.set_cons_zero, List.set_cons_succ]
      refine wpAnyH_take (i := 14) (v := ?v10) rfl (by kernel_rfl) (by kernel_rfl) (by kernel_rfl) (fun _ _ _ h => h) (Or.inl ⟨by rfl, ?y10⟩) (by assumption) ?r10
      case y10 =>
        intro w' hSw
        go_split_ands
        go_simp
        try with_reducible rfl
      try simp only [List.getElem_toArray, List.getElem_cons_zero, List.getElem_cons_succ, Act.put, List.setIfInBounds_toArray, List.set_cons_zero, List.set_cons_succ]
      refine wpAnyH_take (i := 15) (v := ?v11) rfl (by kernel_rfl) (by kernel_rfl) (by kernel_rfl) (fun _ _ _ h => h) (Or.inl ⟨by rfl, ?y11⟩) (by assumption) ?r11
      case y11 =>
        intro w' hSw
        go_split_ands
        go_simp
        try with_reducible rfl
      try simp only [List.getElem_toArray, List.getElem_cons_zero, List.getElem_cons_succ, Act.put, List.setIfInBounds_toArray, List.set_cons_zero, List.set_cons_succ]
      refine wpAnyH_done (by kernel_rfl) ?_ _
      -- REG K END
      clear hHeld
      go_wp2
      go_ret
      exact ⟨rfl, HBY.out.trans (HBf.out.mono HBY.out.size)⟩
end Go.Proofs.YtnoilogepkelaaaDoor
