/-
  The document's keys out of keys: Derive.
-/
import Derived.Test.YtnoilogepkelaaaDoorBHma
import Derived.Test.YtnoilogepkelaaaDoorBRSha
import Derived.Test.YtnoilogepkelaaaDoorBBase
namespace Go.Proofs.YtnoilogepkelaaaDoor
set_option linter.unusedVariables false
set_option linter.unusedSimpArgs false
open Go Go.RowKit
attribute [local go_sem] u8_xor'

theorem Rhm.take_next (b : List (BitVec 8)) (i : Nat) (h : i < b.length) : b.take (i + 1) = b.take i ++ [b.getD i 0] := by
  rw [List.take_add_one]
  simp [h]
theorem Rhm.by_next (x : BitVec 8) (b : List (BitVec 8)) (i : Nat) (h : i < b.length) : Hma.by_ x (b.take (i + 1)) = Hma.by_ x (b.take i) ++ [b.getD i 0 ^^^ x] := by
  rw [Rhm.take_next b i h]
  simp [Hma.by_]

set_option maxRecDepth 100000 in
set_option maxHeartbeats 4000000 in
theorem rchanged_any (b : List (BitVec 8)) (hb : b.length = 64) (x : BitVec 8) (v : Value) (w : World) (hs : SlB w v b) :
    Calls Tryd.prog 75 #[v, .int .u8 (bv x)] w (RetB w (Hma.by_ x b)) := by
  obtain ⟨b0, o0, cap0, rfl, hc0, _⟩ := hs.open_ 64 hb (by omega)
  have HS := Lib.hid hs
  have HBL := Lib.hid hb
  have HN := Lib.hid (fun i (h : i < 64) => Rhm.by_next x b i (by omega))
  have HL := Lib.hid (fun i => (show (Hma.by_ x (b.take i)).length = min i b.length by simp [Hma.by_]))
  have HA := Lib.hid (show Hma.by_ x (b.take 64) = Hma.by_ x b by rw [List.take_of_length_le (by omega)])
  have H0 := Lib.hid (show Hma.by_ x (b.take 0) = [] from rfl)
  clear hs hb
  go_enter Tryd.func75, Tryd.ntmps75
  go_wp2
  go_loopw [5, 6] (fun s5 s6 wr => ∃ i : Nat, i ≤ 64 ∧ s6 = .int .i64 i ∧ Hid (OwnB 5 w.heap.size wr s5 (Hma.by_ x (b.take i))) ∧ Hid (Below w.heap.size w wr)) (fun _ s6 _ => 64 - (intOf s6).toNat)
  case atStart => exact ⟨0, by omega, rfl, Lib.hid (by rw [H0.out]; exact OwnB.nil _ _ _), Below.refl _ _⟩
  case round =>
    obtain ⟨i, hi, rfl, HO, HB⟩ := hrel
    have hsz := HB.out.size
    by_cases hlt : i < 64
    · have c0 := (HS.out.below HB.out (Nat.le_refl _)).cell i (by rw [HBL.out]; omega)
      unfold byteV at c0
      have hn := HN.out i hlt
      generalize b.getD i 0 = y at c0 hn
      have HT := Lib.hid hn
      have HLI := Lib.hid (show (Hma.by_ x (b.take i)).length ≤ 64 by rw [HL.out]; omega)
      clear hn
      go_wp2_with (at_builtin; refine wpList_append_b rfl (.tmp 13) (.tmp 20) 22 5 rfl Tryd.underlying22 info_u8 w.heap.size _ _ (HO.out.alloc _) rfl _ [y ^^^ x] (one_byte _ _ _ rfl) rfl (by have := HLI.out; simp only [List.length_singleton]; omega) (by simp; omega) ?_; intro v3 w3 ho hg hn'; rw [← HT.out] at ho; have HO3 := Lib.hid ho; have HB3 := Lib.hid ((HB.out.alloc hsz _).grown hg (by simp; omega) (fun k e => (World.ownsRow.lt HO.out k e).1)); clear ho hg hn')
      exact ⟨⟨i + 1, by omega, by go_num, HO3, HB3⟩, by simp [intOf]; omega⟩
    · obtain rfl : i = 64 := by omega
      rw [HA.out] at HO
      go_wp2
      go_ret
      exact ⟨_, rfl, HO.out, HB.out⟩

set_option maxRecDepth 100000 in
set_option maxHeartbeats 4000000 in
theorem rblock_any (key : List (BitVec 8)) (v : Value) (w : World) (hs : SlB w v key) (hl : key.length ≤ 50000000) :
    Calls Tryd.prog 76 #[v] w (RetB w (Hma.kblock key)) := by
  obtain ⟨a, cap, rfl⟩ := hs.len
  have HSU := Lib.hid (fun W (hB : Below w.heap.size w W) => rsum_any key _ W (hs.below hB (Nat.le_refl _)) hl)
  have HIH := Lib.hid (show (Tryd.prog.info? 32).map (·.size) = some (bytes (Sha.sum key)).size by rw [bytes_size, Sha.sum_length]; kernel_rfl)
  have HS := Lib.hid hs
  have HSL := Lib.hid (Sha.sum_length key)
  have HSH := Lib.hid (show Hma.short key = if 64 < key.length then Sha.sum key else key from rfl)
  have HKZ := Lib.hid (Hma.short_length key)
  have HKB := Lib.hid (show Hma.kblock key = Hma.short key ++ List.replicate (64 - (Hma.short key).length) 0 from rfl)
  obtain ⟨D, hD⟩ : ∃ D, Sha.sum key = D := ⟨_, rfl⟩
  rw [hD] at HSU HIH HSH HSL
  have HTK := Lib.hid (fun i (h : i < 32) => Rhm.take_next D i (by rw [HSL.out]; omega))
  have HT32 := Lib.hid (show D.take 32 = D from List.take_of_length_le (by rw [HSL.out]; omega))
  have HCE := Lib.hid (fun i (h : i < 32) => bytes_get? D i (by rw [HSL.out]; omega))
  have HLN := Lib.hid (fun i => (show (D.take i).length = min i D.length from List.length_take))
  obtain ⟨n, hn⟩ : ∃ n, key.length = n := ⟨_, rfl⟩
  have HNK := Lib.hid hn
  rw [hn] at HSU HS HSH hl ⊢
  clear hs hn hD
  go_enter Tryd.func76, Tryd.ntmps76
  go_upto_if 8 with (fail)
  go_cut [3] (fun s3 wx => Hid (OwnB 5 w.heap.size wx s3 (Hma.short key)) ∧ Hid (Below w.heap.size w wx))
  case first =>
    by_cases h : 64 < n
    · have h' : (64 : Int) < (n : Int) := by omega
      rw [if_pos h] at HSH
      go_upto_region 4 with (first
        | (go_at_call 33; refine (HSU.out _ (Below.refl _ w)).mono ?_; rintro e w2 ⟨rfl, hb⟩; have HB2 := Lib.hid hb; clear hb)
        | (refine wpList_store_row rfl 32 (.tmp 4) (.tmp 10) rfl _ _ rfl rfl _ _ (heap_alloc_new _ _) HIH.out (by rw [bytes_size, HSL.out]; rfl) (bytes_one _) ?_; rw [World.setRow_alloc_new]))
      obtain ⟨Y, hY, hBY, hYs, hY0⟩ := alloc1 w2 (.cells (bytes D) 32)
      rw [hY]
      have hz2 := HB2.out.size
      have HBY := Lib.hid (HB2.out.trans (hBY.mono hz2))
      have HYS := Lib.hid (show w2.heap.size < Y.heap.size by omega)
      have HY0 := Lib.hid hY0
      obtain ⟨G, hG⟩ : ∃ G, w2.heap.size = G := ⟨_, rfl⟩
      rw [hG] at HY0 HYS ⊢
      clear hY hBY hYs hY0 hz2 hG HB2
      go_wp2
      go_loopw [3, 5] (fun s3 s5 wr => ∃ i : Nat, i ≤ 32 ∧ s5 = .int .i64 i ∧ Hid (OwnB 5 Y.heap.size wr s3 (D.take i)) ∧ Hid (Below Y.heap.size Y wr)) (fun _ s5 _ => 32 - (intOf s5).toNat)
      case atStart => exact ⟨0, by omega, rfl, OwnB.nil _ _ _, Below.refl _ _⟩
      case round =>
        obtain ⟨i, hi, rfl, HO, HB⟩ := hrel
        have hsz := HB.out.size
        by_cases hlt : i < 32
        · have c0 := (cell_of_row wr G i _ _ _ ((HB.out.block _ HYS.out).trans HY0.out)).trans (HCE.out i hlt)
          have htk := HTK.out i hlt
          generalize D.getD i 0 = y at c0 htk
          have HT := Lib.hid htk
          have HL := Lib.hid (show (D.take i).length ≤ 64 by rw [HLN.out]; omega)
          clear htk
          go_wp2_with (at_builtin; refine wpList_append_b rfl (.tmp 15) (.tmp 19) 22 5 rfl Tryd.underlying22 info_u8 Y.heap.size _ _ (HO.out.alloc _) rfl _ [y] (one_byte _ _ _ rfl) rfl (by have := HL.out; simp only [List.length_singleton]; omega) (by simp; omega) ?_; intro v3 w3 ho hg hn'; rw [← HT.out] at ho; have HO3 := Lib.hid ho; have HB3 := Lib.hid ((HB.out.alloc hsz _).grown hg (by simp; omega) (fun k e => (World.ownsRow.lt HO.out k e).1)); clear ho hg hn')
          exact ⟨⟨i + 1, by omega, by go_num, HO3, HB3⟩, by simp [intOf]; omega⟩
        · obtain rfl : i = 32 := by omega
          rw [HT32.out, ← HSH.out] at HO
          have HBw := Lib.hid (HBY.out.trans (HB.out.mono HBY.out.size))
          have HOw := Lib.hid (HO.out.mono HBY.out.size)
          go_wp2
          go_meet
          case rel => exact ⟨HOw, HBw⟩
    · have h' : ¬ (64 : Int) < (n : Int) := by omega
      rw [if_neg h] at HSH
      go_wp2_with (at_builtin; refine wpList_append_b rfl (.tmp 21) (.tmp 22) 22 5 rfl Tryd.underlying22 info_u8 w.heap.size (.slice none 0 0) [] (OwnB.nil _ _ _) rfl _ key HS.out rfl (by rw [HNK.out]; simp; omega) (Nat.le_refl _) ?_; intro v2 w1 ho hg hn'; rw [List.nil_append, ← HSH.out] at ho; have HO1 := Lib.hid ho; have HB1 := Lib.hid ((Below.refl w.heap.size w).grown hg (Nat.le_refl _) (fun k e => by cases e)); clear ho hg hn')
      go_meet
      case rel => exact ⟨HO1, HB1⟩
  case rest =>
    clear HS HSU HSH HIH HTK HT32 HCE HLN HSL HNK
    obtain ⟨HO0, HB0⟩ := hcut
    obtain ⟨K, hK⟩ : ∃ K, Hma.short key = K := ⟨_, rfl⟩
    rw [hK] at HO0 HKZ HKB
    clear hK
    obtain ⟨m, hm⟩ : ∃ m, K.length = m := ⟨_, rfl⟩
    have HM := Lib.hid hm
    rw [hm] at HKZ HKB
    clear hm
    go_wp2
    go_loopw [3] (fun s3 wr => ∃ r q : Nat, m + r = q ∧ q ≤ 64 ∧ (∃ a c, s3 = .slice a q c) ∧ Hid (OwnB 5 w.heap.size wr s3 (K ++ List.replicate r 0)) ∧ Hid (Below w.heap.size w wr)) (fun s3 _ => 100 - (match s3 with | .slice _ l _ => l | _ => 0))
    case atStart => exact ⟨0, m, by omega, HKZ.out, by have := HO0.out.sl.len; rw [HM.out] at this; exact this, by rw [List.replicate_zero, List.append_nil]; exact HO0, HB0⟩
    case round =>
      clear HO0 HB0
      obtain ⟨r, q, hq, hq64, ⟨a3, c3, rfl⟩, HO, HB⟩ := hrel
      have HQ := Lib.hid hq
      have hsz := HB.out.size
      have HRL := Lib.hid (show ∀ r, (K ++ List.replicate r (0 : BitVec 8)).length = m + r from fun r => by rw [List.length_append, List.length_replicate, HM.out])
      clear hq
      by_cases hlt : q < 64
      · go_wp2_with (at_builtin; refine wpList_append_b rfl (.tmp 27) (.tmp 28) 22 5 rfl Tryd.underlying22 info_u8 w.heap.size _ _ (HO.out.alloc _) rfl _ [0] (one_byte _ _ 0 rfl) rfl (by rw [HRL.out]; have := HQ.out; simp only [List.length_singleton]; omega) (by simp; omega) ?_; intro v3 w3 ho hg hn'; rw [List.append_assoc, ← List.replicate_succ'] at ho; have HO3 := Lib.hid ho; have HB3 := Lib.hid ((HB.out.alloc hsz _).grown hg (by simp; omega) (fun k e => (World.ownsRow.lt HO.out k e).1)); clear ho hg hn')
        obtain ⟨a5, cap5, rfl⟩ := HO3.out.sl.len
        rw [HRL.out] at HO3 ⊢
        refine ⟨⟨r + 1, m + (r + 1), rfl, by have := HQ.out; omega, ⟨_, _, rfl⟩, HO3, HB3⟩, ?_⟩
        have h1 := HQ.out
        simp
        omega
      · have hf : ¬ (q : Int) < 64 := by omega
        have HO' : Hid (OwnB 5 w.heap.size wr (.slice a3 q c3) (Hma.kblock key)) := by
          have h1 := HQ.out
          rw [HKB.out, show 64 - m = r by omega]
          exact HO
        clear HO
        go_wp2
        go_ret
        exact ⟨_, rfl, HO'.out, HB.out⟩
end Go.Proofs.YtnoilogepkelaaaDoor
namespace Go.Proofs.YtnoilogepkelaaaDoor
set_option linter.unusedVariables false
set_option linter.unusedSimpArgs false
open Go Go.RowKit

set_option maxRecDepth 100000 in
set_option maxHeartbeats 4000000 in
theorem rhmac_any (key text : List (BitVec 8)) (v0 v1 : Value) (w : World) (h0 : SlB w v0 key) (h1 : SlB w v1 text) (hl0 : key.length ≤ 40000000) (hl1 : text.length ≤ 40000000) :
    Calls Tryd.prog 47 #[v0, v1] w fun e w' => e = .returned (.agg (bytes (Hma.tag key text))) ∧ Below w.heap.size w w' := by
  have HS0 := Lib.hid h0
  have HS1 := Lib.hid h1
  have HBK := Lib.hid (fun W (hB : Below w.heap.size w W) => rblock_any key v0 W (h0.below hB (Nat.le_refl _)) (by omega))
  have hkl := Hma.kblock_length key
  have HC1 := Lib.hid (fun v W (h : SlB W v (Hma.kblock key)) => rchanged_any (Hma.kblock key) hkl 0x36 v W h)
  have HC2 := Lib.hid (fun v W (h : SlB W v (Hma.kblock key)) => rchanged_any (Hma.kblock key) hkl 0x5c v W h)
  rw [show bv (0x36 : BitVec 8) = 54 from rfl] at HC1
  rw [show bv (0x5c : BitVec 8) = 92 from rfl] at HC2
  have hby : ∀ x, (Hma.by_ x (Hma.kblock key)).length = 64 := fun x => by simp [Hma.by_, hkl]
  have htg : Hma.tag key text = Sha.sum (Hma.by_ 0x5c (Hma.kblock key) ++ Sha.sum (Hma.by_ 0x36 (Hma.kblock key) ++ text)) := rfl
  have HM1 := Lib.hid (fun v W (h : SlB W v (Hma.by_ 0x36 (Hma.kblock key) ++ text)) => rsum_any _ v W h (by rw [List.length_append, hby]; omega))
  have HM2 := Lib.hid (fun v W (h : SlB W v (Hma.by_ 0x5c (Hma.kblock key) ++ Sha.sum (Hma.by_ 0x36 (Hma.kblock key) ++ text))) => rsum_any _ v W h (by rw [List.length_append, hby, Sha.sum_length]; omega))
  rw [← htg] at HM2
  have HBY1 := Lib.hid (hby 0x36)
  have HBY2 := Lib.hid (hby 0x5c)
  have HTL := Lib.hid (Hma.tag_length key text)
  obtain ⟨D, hD⟩ : ∃ D, Sha.sum (Hma.by_ 0x36 (Hma.kblock key) ++ text) = D := ⟨_, rfl⟩
  have HDL := Lib.hid (show D.length = 32 by rw [← hD]; exact Sha.sum_length _)
  rw [hD] at HM1 HM2
  obtain ⟨T, hT⟩ : ∃ T, Hma.tag key text = T := ⟨_, rfl⟩
  rw [hT] at HM2 HTL ⊢
  have HIH := Lib.hid (fun (xs : List (BitVec 8)) (h : xs.length = 32) => (show (Tryd.prog.info? 32).map (·.size) = some (bytes xs).size by rw [bytes_size, h]; kernel_rfl))
  have HTK := Lib.hid (fun i (h : i < 32) => Rhm.take_next D i (by rw [HDL.out]; omega))
  have HT32 := Lib.hid (show D.take 32 = D from List.take_of_length_le (by rw [HDL.out]; omega))
  have HCE := Lib.hid (fun i (h : i < 32) => bytes_get? D i (by rw [HDL.out]; omega))
  have HLN := Lib.hid (fun i => (show (D.take i).length = min i D.length from List.length_take))
  have HL1 := Lib.hid hl1
  clear h0 h1 hkl hby htg hD hT
  go_enter Tryd.func47, Tryd.ntmps47
  go_upto_region 1 with fail
  obtain ⟨X, hX, hBX, hXs, hX0⟩ := alloc1 w (.cells (bytes (List.replicate 32 0)) 32)
  rw [show w.alloc (.cells #[.int .u8 0, .int .u8 0, .int .u8 0, .int .u8 0, .int .u8 0, .int .u8 0, .int .u8 0, .int .u8 0, .int .u8 0, .int .u8 0, .int .u8 0, .int .u8 0, .int .u8 0, .int .u8 0, .int .u8 0, .int .u8 0, .int .u8 0, .int .u8 0, .int .u8 0, .int .u8 0, .int .u8 0, .int .u8 0, .int .u8 0, .int .u8 0, .int .u8 0, .int .u8 0, .int .u8 0, .int .u8 0, .int .u8 0, .int .u8 0, .int .u8 0, .int .u8 0] 32) = X from hX]
  have HB0 := Lib.hid hBX
  have HO0 := Lib.hid hX0
  have HXS := Lib.hid hXs
  clear hX hBX hX0 hXs
  go_upto_region 2 with (first
    | (go_at_call 76; (with_reducible refine Calls.mono (HBK.out _ HB0.out) ?_); rintro e w1 ⟨v2, rfl, ho, hb⟩; have HO1 := Lib.hid ho.sl; have HB1 := Lib.hid hb; clear ho hb)
    | (go_at_call 75; (with_reducible refine Calls.mono (HC1.out _ _ HO1.out) ?_); rintro e w2 ⟨v3, rfl, ho, hb⟩; have HO2 := Lib.hid (ho.mono HB1.out.size); have HB2 := Lib.hid (HB1.out.trans (hb.mono HB1.out.size)); clear ho hb)
    | (at_builtin; refine wpList_append_b rfl (.tmp 10) (.tmp 11) 22 5 rfl Tryd.underlying22 info_u8 X.heap.size _ _ HO2.out rfl _ _ (HS1.out.below (HB0.out.trans (HB2.out.mono HB0.out.size)) (Nat.le_refl _)) rfl (by rw [HBY1.out]; have := HL1.out; omega) HB2.out.size ?_; intro v4 w3 ho hg hn'; have HO3 := Lib.hid ho.sl; have HB3 := Lib.hid (HB2.out.grown hg HB2.out.size (fun k e => (World.ownsRow.lt HO2.out k e).1)); clear ho hg hn')
    | (go_at_call 33; refine (HM1.out _ _ HO3.out).mono ?_; rintro e w4 ⟨rfl, hb⟩; have HB4 := Lib.hid (HB3.out.trans (hb.mono HB3.out.size)); clear hb)
    | (refine wpList_store_row rfl 32 (.tmp 5) (.tmp 13) rfl _ _ rfl rfl _ _ (heap_alloc_new _ _) (HIH.out _ HDL.out) (by rw [bytes_size, HDL.out]; rfl) (bytes_one _) ?_; rw [World.setRow_alloc_new]))
  obtain ⟨Y, hY, hBY, hYs, hY0⟩ := alloc1 w4 (.cells (bytes D) 32)
  rw [hY]
  have hz4 := HB4.out.size
  have HBY := Lib.hid (HB4.out.trans (hBY.mono hz4))
  have HYS := Lib.hid (show w4.heap.size < Y.heap.size by omega)
  have HY0 := Lib.hid hY0
  obtain ⟨G, hG⟩ : ∃ G, w4.heap.size = G := ⟨_, rfl⟩
  rw [hG] at HY0 HYS ⊢
  clear hY hBY hYs hY0 hz4 hG HB1 HB2 HB3 HB4 HO1 HO2 HO3
  go_wp2
  go_loopw [6, 7] (fun s6 s7 wr => ∃ i : Nat, i ≤ 32 ∧ s7 = .int .i64 i ∧ Hid (OwnB 5 Y.heap.size wr s6 (D.take i)) ∧ Hid (Below Y.heap.size Y wr)) (fun _ s7 _ => 32 - (intOf s7).toNat)
  case atStart => exact ⟨0, by omega, rfl, OwnB.nil _ _ _, Below.refl _ _⟩
  case round =>
    obtain ⟨i, hi, rfl, HO, HB⟩ := hrel
    have hsz := HB.out.size
    by_cases hlt : i < 32
    · have c0 := (cell_of_row wr G i _ _ _ ((HB.out.block _ HYS.out).trans HY0.out)).trans (HCE.out i hlt)
      have htk := HTK.out i hlt
      generalize D.getD i 0 = y at c0 htk
      have HT := Lib.hid htk
      have HL := Lib.hid (show (D.take i).length ≤ 64 by rw [HLN.out]; omega)
      clear htk
      go_wp2_with (at_builtin; refine wpList_append_b rfl (.tmp 18) (.tmp 22) 22 5 rfl Tryd.underlying22 info_u8 Y.heap.size _ _ (HO.out.alloc _) rfl _ [y] (one_byte _ _ _ rfl) rfl (by have := HL.out; simp only [List.length_singleton]; omega) (by simp; omega) ?_; intro v3 w3 ho hg hn'; rw [← HT.out] at ho; have HO3 := Lib.hid ho; have HB3 := Lib.hid ((HB.out.alloc hsz _).grown hg (by simp; omega) (fun k e => (World.ownsRow.lt HO.out k e).1)); clear ho hg hn')
      exact ⟨⟨i + 1, by omega, by go_num, HO3, HB3⟩, by simp [intOf]; omega⟩
    · obtain rfl : i = 32 := by omega
      rw [HT32.out] at HO
      have HBX := Lib.hid (HBY.out.trans (HB.out.mono HBY.out.size))
      have HBW := Lib.hid (HB0.out.trans (HBX.out.mono HB0.out.size))
      have hxs := HXS.out
      have HOR := Lib.hid (show ∀ W, Below X.heap.size X W → W.heap[w.heap.size]? = some (.cells (bytes (List.replicate 32 0)) 32 (0, 0)) from fun W h => (h.block _ (by omega)).trans HO0.out)
      clear hxs
      go_wp2_with (first
        | (go_at_call 76; (with_reducible refine Calls.mono (HBK.out _ HBW.out) ?_); rintro e w1 ⟨v2, rfl, ho, hb⟩; have HO1 := Lib.hid ho.sl; have HB1 := Lib.hid hb; have HP1 := Lib.hid (HO.out.below hb (Nat.le_refl _)); clear ho hb)
        | (go_at_call 75; (with_reducible refine Calls.mono (HC2.out _ _ HO1.out) ?_); rintro e w2 ⟨v3, rfl, ho, hb⟩; have HO2 := Lib.hid (ho.mono HB1.out.size); have HB2 := Lib.hid (HB1.out.trans (hb.mono HB1.out.size)); have HP2 := Lib.hid (HP1.out.below hb (Nat.le_refl _)); clear ho hb)
        | (at_builtin; refine wpList_append_b rfl (.tmp 26) (.tmp 27) 22 5 rfl Tryd.underlying22 info_u8 wr.heap.size _ _ HO2.out rfl _ _ HP2.out.sl rfl (by rw [HBY2.out, HDL.out]; omega) HB2.out.size ?_; intro v4 w3 ho hg hn'; have HO3 := Lib.hid ho.sl; have HB3 := Lib.hid (HB2.out.grown hg HB2.out.size (fun k e => (World.ownsRow.lt HO2.out k e).1)); clear ho hg hn')
        | (go_at_call 33; refine (HM2.out _ _ HO3.out).mono ?_; rintro e w4 ⟨rfl, hb⟩; have HB4 := Lib.hid (HBX.out.trans ((HB3.out.trans (hb.mono HB3.out.size)).mono HBX.out.size)); have HO6 := Lib.hid (HOR.out _ HB4.out); clear hb)
        | (refine wpList_store_row rfl 32 (.tmp 4) (.tmp 29) rfl w.heap.size _ rfl rfl _ _ HO6.out (HIH.out _ HTL.out) (by rw [bytes_size, bytes_size, HTL.out]; rfl) (bytes_one _) ?_))
      have hb2 := HB0.out.trans (HB4.out.mono HB0.out.size)
      exact bodyPost_ret (results_cell_row Tryd.results47 _ _ w.heap.size _ _ _ _ rfl (setRow_heap _ _ _ _ _ _ HO6.out) Tryd.underlying32 rfl (HIH.out _ HTL.out)) rfl ⟨rfl, hb2.trans (((Kept.refl [w.heap.size] w4).setRow (by simp) _).toBelow (B := w.heap.size) (by simp) hb2.size)⟩
end Go.Proofs.YtnoilogepkelaaaDoor
namespace Go.Proofs.YtnoilogepkelaaaDoor
set_option linter.unusedVariables false
set_option linter.unusedSimpArgs false
open Go Go.RowKit

theorem SlL.below {B : Nat} {w w' : World} {v : Value} {vs : List Value} (h : SlL w v vs) (hb : Below B w w') (hB : w.heap.size ≤ B) : SlL w' v vs := by
  rcases h with h | ⟨b, off, cap, rfl, h1, h2, h3, h4⟩
  · exact .inl h
  · refine .inr ⟨b, off, cap, rfl, h1, h2, by have := hb.size; omega, fun j hj => ?_⟩
    exact (hb.cell (p := ⟨b, off + j, none⟩) (by show b < B; omega)).trans (h4 j hj)
theorem SlL.len {w : World} {v : Value} {vs : List Value} (h : SlL w v vs) : ∃ a cap, v = .slice a vs.length cap := by
  rcases h with ⟨rfl, rfl⟩ | ⟨b, off, cap, rfl, _⟩
  · exact ⟨none, 0, rfl⟩
  · exact ⟨_, cap, rfl⟩
theorem one_of_sl {w : World} {v : Value} {xs : List (BitVec 8)} (h : SlB w v xs) : v.oneCell' = true := by
  obtain ⟨a, cap, rfl⟩ := h.len
  rfl
/-- Of all parts, the name ahead, the first k. -/
def Hma.canonA (name : List (BitVec 8)) (parts : List (List (BitVec 8))) (k : Nat) : List (BitVec 8) := ((name :: parts).take k).foldl Hma.piece []
theorem Hma.canonA_succ (name : List (BitVec 8)) (parts : List (List (BitVec 8))) (k : Nat) (h : k < parts.length + 1) : Hma.canonA name parts (k + 1) = Hma.piece (Hma.canonA name parts k) ((name :: parts).getD k []) := by
  unfold Hma.canonA
  rw [List.take_succ_eq_append_getElem (by simpa using h), List.foldl_append]
  simp [List.getD, h]
theorem Hma.canonA_all (name : List (BitVec 8)) (parts : List (List (BitVec 8))) : Hma.canonA name parts (parts.length + 1) = Hma.canon name parts := by
  unfold Hma.canonA Hma.canon
  rw [List.take_of_length_le (by simp)]
  rfl
theorem Hma.canonA_le (name : List (BitVec 8)) (parts : List (List (BitVec 8))) (N : Nat) (hn : name.length ≤ N) (hp : ∀ k, k < parts.length → (parts.getD k []).length ≤ N) (k : Nat) (h : k ≤ parts.length + 1) : (Hma.canonA name parts k).length ≤ k * (4 + N) := by
  induction k with
  | zero => simp [Hma.canonA]
  | succ k ih =>
    rw [Hma.canonA_succ _ _ _ (by omega), Hma.piece_length]
    have h1 : ((name :: parts).getD k []).length ≤ N := by
      cases k with
      | zero => exact hn
      | succ k => rw [List.getD_cons_succ]; exact hp k (by omega)
    have := ih (by omega)
    rw [Nat.add_mul]
    omega

set_option maxRecDepth 100000 in
set_option maxHeartbeats 4000000 in
theorem rcanon_any (name : List (BitVec 8)) (parts : List (List (BitVec 8))) (hn : name.length ≤ 1000000) (vs : List Value) (v : Value) (w : World) (hv : SlL w v vs) (hl : vs.length = parts.length)
    (hs : ∀ j, j < vs.length → SlB w (vs.getD j undef) (parts.getD j [])) (hp : ∀ j, j < parts.length → (parts.getD j []).length ≤ 1000000) (hm : parts.length ≤ 20) :
    Calls Tryd.prog 77 #[.string (strB name), v] w (RetB w (Hma.canon name parts)) := by
  obtain ⟨c4, W4, hc4, hs4, hb4⟩ := conv_str name hn w
  have HV := Lib.hid hv
  have HS := Lib.hid hs
  have HC4 := Lib.hid hs4
  have HB4 := Lib.hid hb4
  have HONE := Lib.hid (show ∀ y ∈ vs, y.oneCell' = true from fun y h => by
    obtain ⟨j, hj, rfl⟩ := List.getElem_of_mem h
    have h2 := hs j hj
    rw [List.getD, List.getElem?_eq_getElem hj, Option.getD_some] at h2
    exact one_of_sl h2)
  have HSU := Lib.hid (fun k h => Hma.canonA_succ name parts k h)
  have HAL := Lib.hid (Hma.canonA_all name parts)
  have HZ := Lib.hid (show Hma.canonA name parts 0 = [] from rfl)
  have HLE := Lib.hid (fun k (h : k ≤ parts.length + 1) => (show (Hma.canonA name parts k).length ≤ 30000000 by have h1 := Hma.canonA_le name parts 1000000 hn hp k h; have h2 := Nat.mul_le_mul_right 1000004 (show k ≤ 21 by omega); omega))
  have HPL := Lib.hid (fun k (h : k ≤ parts.length) => (show ((name :: parts).getD k []).length ≤ 1000000 by
    cases k with
    | zero => exact hn
    | succ k => rw [List.getD_cons_succ]; exact hp k (by omega)))
  have HEL := Lib.hid (fun W (u : Value) (h0 : SlB W u name) (h1 : ∀ j, j < vs.length → SlB W (vs.getD j undef) (parts.getD j [])) k (hk : k ≤ vs.length) => (show SlB W ((u :: vs).getD k undef) ((name :: parts).getD k []) by
    cases k with
    | zero => exact h0
    | succ k => rw [List.getD_cons_succ, List.getD_cons_succ]; exact h1 k (by omega)))
  obtain ⟨NM, hNM⟩ : ∃ NM, strB name = NM := ⟨_, rfl⟩
  rw [hNM] at hc4 ⊢
  have HN := Lib.hid hn
  obtain ⟨m, hm'⟩ : ∃ m, vs.length = m := ⟨_, rfl⟩
  have hmm : m = parts.length := by rw [← hm']; exact hl
  rw [hm'] at HS HEL
  rw [← hmm] at hm HSU HAL HLE HPL
  have HM := Lib.hid hm'
  have HM2 := Lib.hid hmm
  clear hv hl hs hs4 hb4 hn hp hNM hm' hmm
  go_enter Tryd.func77, Tryd.ntmps77
  go_upto_region 4 with (first
    | (at_builtin; refine wpList_append_l rfl (.tmp 9) (.tmp 12) 60 22 rfl Tryd.underlying60 info_sl (W4.heap.size + 1) (.slice none 0 0) [] (OwnL.nil _ _ _) rfl _ [.slice (some ⟨w.heap.size, 0, none⟩) name.length c4] (SlL.block _ (heap_alloc_new W4 _) 1 rfl (by simp)) (by intro y hy; rw [List.mem_singleton] at hy; subst hy; rfl) rfl (by simp) (by simp) ?_; intro v2 w2 ho hg hn'; rw [List.nil_append] at ho; have HO2 := Lib.hid ho; have HB2 := Lib.hid ((Below.refl (W4.heap.size + 1) _).grown hg (by simp) (fun k e => by cases e)); have HC2 := Lib.hid ((HC4.out.alloc _).below HB2.out (by simp)); have HW2 := Lib.hid ((HB4.out.alloc HB4.out.size _).trans (HB2.out.mono (by have := HB4.out.size; omega))); clear ho hg hn')
    | (at_builtin; refine wpList_append_l rfl (.tmp 14) (.tmp 15) 60 22 rfl Tryd.underlying60 info_sl (W4.heap.size + 1) _ _ HO2.out rfl _ vs (HV.out.below HW2.out (Nat.le_refl _)) HONE.out rfl (by rw [HM.out]; simp; omega) (by have := HB2.out.size; simp at this; exact this) ?_; intro v3 w3 ho hg hn'; rw [List.singleton_append] at ho; have HO3 := Lib.hid ho; have HB3 := Lib.hid (HB2.out.grown hg (by have := HB2.out.size; simp at this; exact this) (fun k e => (World.ownsRow.lt HO2.out k e).1)); have HC3 := Lib.hid ((HC4.out.alloc _).below HB3.out (by simp)); have HW3 := Lib.hid ((HB4.out.alloc HB4.out.size _).trans (HB3.out.mono (by have := HB4.out.size; omega))); clear ho hg hn'))
  have HE3 := Lib.hid (HEL.out w3 _ HC3.out (fun j hj => (HS.out j hj).below HW3.out (Nat.le_refl _)))
  obtain ⟨b3, o3, cap3, rfl, hcb, hb3, hc3⟩ : ∃ b off cap, v3 = .slice (some ⟨b, off, none⟩) (m + 1) cap ∧ m + 1 ≤ cap ∧ b < w3.heap.size ∧ ∀ j, j < m + 1 → w3.cell? ⟨b, off + j, none⟩ = some ((Value.slice (some ⟨w.heap.size, 0, none⟩) name.length c4 :: vs).getD j undef) := by
    rcases HO3.out.sl with ⟨_, h⟩ | ⟨b, off, cap, h, h1, h2, h3, h4⟩
    · cases h
    · rw [List.length_cons, HM.out] at h h1 h4
      exact ⟨b, off, cap, h, h1, h3, h4⟩
  have HC := Lib.hid hc3
  have HBB := Lib.hid hb3
  clear HO2 HB2 HC2 HW2 HO3 HB3 HC3 HONE HS HV HEL HB4 HC4 hc3 hb3 hc4
  obtain ⟨us, hus⟩ : ∃ us, (Value.slice (some ⟨w.heap.size, 0, none⟩) name.length c4 :: vs) = us := ⟨_, rfl⟩
  rw [hus] at HC HE3
  obtain ⟨ps, hps⟩ : ∃ ps, name :: parts = ps := ⟨_, rfl⟩
  rw [hps] at HE3 HSU HPL
  clear hus hps HM
  go_wp2
  go_loopw [6, 7] (fun s6 s7 wr => ∃ k : Nat, k ≤ m + 1 ∧ s7 = .int .i64 k ∧ Hid (OwnB 5 w3.heap.size wr s6 (Hma.canonA name parts k)) ∧ Hid (Below w3.heap.size w3 wr)) (fun _ s7 _ => m + 1 - (intOf s7).toNat)
  case atStart => exact ⟨0, by omega, rfl, Lib.hid (by rw [HZ.out]; exact OwnB.nil _ _ _), Below.refl _ _⟩
  case round =>
    obtain ⟨k, hk, rfl, HO, HB⟩ := hrel
    have hsz := HB.out.size
    by_cases hlt : k < m + 1
    · have hc := (HB.out.cell (p := ⟨b3, o3 + k, none⟩) HBB.out).trans (HC.out k hlt)
      have hsk := fun W (hW : Below w3.heap.size w3 W) => (HE3.out k (by omega)).below hW (Nat.le_refl _)
      have HPK := Lib.hid (show (ps.getD k []).length ≤ 1000000 ∧ Hma.canonA name parts (k + 1) = Hma.piece (Hma.canonA name parts k) (ps.getD k []) ∧ (Hma.canonA name parts k).length ≤ 30000000 from ⟨HPL.out k (by omega), HSU.out k (by omega), HLE.out k (by omega)⟩)
      obtain ⟨a', c', hu⟩ := (hsk wr HB.out).len
      simp only [hu] at hsk
      have HCK := Lib.hid (fun W (hW : Below w3.heap.size w3 W) => ((hW.cell (p := ⟨b3, o3 + k, none⟩) HBB.out).trans (HC.out k hlt)).trans (congrArg some hu))
      rw [hu] at hc
      have HSK := Lib.hid hsk
      clear hsk
      generalize ps.getD k [] = p at hc HPK HSK HCK
      have HT := Lib.hid (show Hma.piece (Hma.canonA name parts k) p = (Hma.canonA name parts k ++ Hma.len4 p.length) ++ p from rfl)
      have HL4 := Lib.hid (show Hma.len4 p.length = [BitVec.ofNat 8 (p.length / 16777216), BitVec.ofNat 8 (p.length / 65536), BitVec.ofNat 8 (p.length / 256), BitVec.ofNat 8 p.length] from rfl)
      obtain ⟨n, hn⟩ : ∃ n, p.length = n := ⟨_, rfl⟩
      have HN := Lib.hid hn
      rw [hn] at hc HSK HT HL4 HCK
      have hn1 : n ≤ 1000000 := by rw [← hn]; exact HPK.out.1
      clear hu hn
      go_wp2_with (first
        | (at_builtin; refine wpList_append_b rfl (.tmp 28) (.tmp 43) 22 5 rfl Tryd.underlying22 info_u8 w3.heap.size _ _ (HO.out.alloc _) rfl _ (Hma.len4 n) (by rw [HL4.out]; refine four_new _ _ _ _ _ _ _ _ _ ?_ ?_ ?_ ?_ <;> (rw [bv_ofNat] <;> omega)) rfl (by rw [HL4.out]; have := HPK.out.2.2; simp; omega) (by simp; omega) ?_; intro v2 w2 ho hg hn'; have HO2 := Lib.hid ho; have HB2 := Lib.hid ((HB.out.alloc hsz _).grown hg (by simp; omega) (fun k e => (World.ownsRow.lt HO.out k e).1)); have hc2 := HCK.out _ HB2.out; clear ho hg hn')
        | (at_builtin; refine wpList_append_b rfl (.tmp 45) (.tmp 49) 22 5 rfl Tryd.underlying22 info_u8 w3.heap.size _ _ HO2.out rfl _ p (HSK.out _ HB2.out) rfl (by rw [HL4.out]; have := HPK.out.2.2; have := HN.out; simp; omega) HB2.out.size ?_; intro v4 w4 ho hg hn'; rw [← HT.out, ← HPK.out.2.1] at ho; have HO4 := Lib.hid ho; have HB4 := Lib.hid (HB2.out.grown hg HB2.out.size (fun k e => (World.ownsRow.lt HO2.out k e).1)); clear ho hg hn'))
      exact ⟨⟨k + 1, by omega, by go_num, HO4, HB4⟩, by simp [intOf]; omega⟩
    · obtain rfl : k = m + 1 := by omega
      rw [HAL.out] at HO
      go_wp2
      go_ret
      have hz3 := HW3.out.size
      exact ⟨_, rfl, HO.out.mono hz3, HW3.out.trans (HB.out.mono hz3)⟩
end Go.Proofs.YtnoilogepkelaaaDoor
namespace Go.Proofs.YtnoilogepkelaaaDoor
set_option linter.unusedVariables false
set_option linter.unusedSimpArgs false
open Go Go.RowKit

set_option maxRecDepth 100000 in
set_option maxHeartbeats 4000000 in
theorem rderive_any (key name : List (BitVec 8)) (parts : List (List (BitVec 8))) (hk : key.length = 32) (hn : name.length ≤ 1000000) (vs : List Value) (v : Value) (w : World) (hv : SlL w v vs) (hl : vs.length = parts.length)
    (hs : ∀ j, j < vs.length → SlB w (vs.getD j undef) (parts.getD j [])) (hp : ∀ j, j < parts.length → (parts.getD j []).length ≤ 1000000) (hm : parts.length ≤ 20) :
    Calls Tryd.prog 48 #[.agg (bytes key), .string (strB name), v] w fun e w' => e = .returned (.agg (bytes (Hma.derive_ key name parts))) ∧ Below w.heap.size w w' := by
  have hle : (Hma.canon name parts).length ≤ 30000000 := by
    rw [← Hma.canonA_all]
    have h1 := Hma.canonA_le name parts 1000000 hn hp (parts.length + 1) (Nat.le_refl _)
    have h2 := Nat.mul_le_mul_right 1000004 (show parts.length + 1 ≤ 21 by omega)
    omega
  have HCN := Lib.hid (fun W (hB : Below w.heap.size w W) => rcanon_any name parts hn vs v W (hv.below hB (Nat.le_refl _)) hl (fun j hj => (hs j hj).below hB (Nat.le_refl _)) hp hm)
  have HMA := Lib.hid (fun v0 v1 W (h0 : SlB W v0 key) (h1 : SlB W v1 (Hma.canon name parts)) => rhmac_any key (Hma.canon name parts) v0 v1 W h0 h1 (by omega) (by omega))
  rw [show Hma.tag key (Hma.canon name parts) = Hma.derive_ key name parts from rfl] at HMA
  have HIT := Lib.hid (show (Tryd.prog.info? 32).map (·.size) = some (bytes (Hma.derive_ key name parts)).size by rw [bytes_size, Hma.derive_length]; kernel_rfl)
  have HTZ := Lib.hid (Hma.derive_length key name parts)
  have HTK := Lib.hid (fun i (h : i < 32) => Rhm.take_next key i (by omega))
  have HT32 := Lib.hid (show key.take 32 = key from List.take_of_length_le (by omega))
  have HCE := Lib.hid (fun i (h : i < 32) => bytes_get? key i (by omega))
  have HLN := Lib.hid (fun i => (show (key.take i).length = min i key.length from List.length_take))
  obtain ⟨T, hT⟩ : ∃ T, Hma.derive_ key name parts = T := ⟨_, rfl⟩
  rw [hT] at HMA HIT HTZ ⊢
  obtain ⟨C, hC⟩ : ∃ C, Hma.canon name parts = C := ⟨_, rfl⟩
  rw [hC] at HMA HCN
  obtain ⟨kb, hkb⟩ : ∃ kb, bytes key = kb := ⟨_, rfl⟩
  rw [hkb] at HCE ⊢
  obtain ⟨NM, hNM⟩ : ∃ NM, strB name = NM := ⟨_, rfl⟩
  rw [hNM] at HCN ⊢
  clear hv hl hs hp hle hk hn hT hC hkb hNM
  go_enter Tryd.func48, Tryd.ntmps48
  go_upto_region 1 with fail
  obtain ⟨X, hX, hBX, hXs, hX0, hX1⟩ := alloc2 w (.cells kb 32) (.cells (bytes (List.replicate 32 0)) 32)
  rw [show (w.alloc (.cells kb 32)).alloc (.cells #[.int .u8 0, .int .u8 0, .int .u8 0, .int .u8 0, .int .u8 0, .int .u8 0, .int .u8 0, .int .u8 0, .int .u8 0, .int .u8 0, .int .u8 0, .int .u8 0, .int .u8 0, .int .u8 0, .int .u8 0, .int .u8 0, .int .u8 0, .int .u8 0, .int .u8 0, .int .u8 0, .int .u8 0, .int .u8 0, .int .u8 0, .int .u8 0, .int .u8 0, .int .u8 0, .int .u8 0, .int .u8 0, .int .u8 0, .int .u8 0, .int .u8 0, .int .u8 0] 32) = X from hX]
  have HBX := Lib.hid hBX
  have HX0 := Lib.hid hX0
  have HX1 := Lib.hid hX1
  have HXS := Lib.hid hXs
  clear hX hBX hX0 hX1 hXs
  go_wp2
  go_loopw [7, 8] (fun s7 s8 wr => ∃ i : Nat, i ≤ 32 ∧ s8 = .int .i64 i ∧ Hid (OwnB 5 X.heap.size wr s7 (key.take i)) ∧ Hid (Below X.heap.size X wr)) (fun _ s8 _ => 32 - (intOf s8).toNat)
  case atStart => exact ⟨0, by omega, rfl, OwnB.nil _ _ _, Below.refl _ _⟩
  case round =>
    obtain ⟨i, hi, rfl, HO, HB⟩ := hrel
    have hsz := HB.out.size
    by_cases hlt : i < 32
    · have hxs := HXS.out
      have c0 := (cell_of_row wr w.heap.size i _ _ _ ((HB.out.block _ (by omega)).trans HX0.out)).trans (HCE.out i hlt)
      clear hxs
      have htk := HTK.out i hlt
      generalize key.getD i 0 = y at c0 htk
      have HT := Lib.hid htk
      have HL := Lib.hid (show (key.take i).length ≤ 64 by rw [HLN.out]; omega)
      clear htk
      go_wp2_with (at_builtin; refine wpList_append_b rfl (.tmp 13) (.tmp 17) 22 5 rfl Tryd.underlying22 info_u8 X.heap.size _ _ (HO.out.alloc _) rfl _ [y] (one_byte _ _ _ rfl) rfl (by have := HL.out; simp only [List.length_singleton]; omega) (by simp; omega) ?_; intro v3 w3 ho hg hn'; rw [← HT.out] at ho; have HO3 := Lib.hid ho; have HB3 := Lib.hid ((HB.out.alloc hsz _).grown hg (by simp; omega) (fun k e => (World.ownsRow.lt HO.out k e).1)); clear ho hg hn')
      exact ⟨⟨i + 1, by omega, by go_num, HO3, HB3⟩, by simp [intOf]; omega⟩
    · obtain rfl : i = 32 := by omega
      rw [HT32.out] at HO
      have HBW := Lib.hid (HBX.out.trans (HB.out.mono HBX.out.size))
      have hxs := HXS.out
      have HOR := Lib.hid (show ∀ W, Below X.heap.size X W → W.heap[w.heap.size + 1]? = some (.cells (bytes (List.replicate 32 0)) 32 (0, 0)) from fun W h => (h.block _ (by omega)).trans HX1.out)
      clear hxs
      go_wp2_with (first
        | (go_at_call 77; (with_reducible refine Calls.mono (HCN.out _ HBW.out) ?_); rintro e w1 ⟨v2, rfl, ho, hb⟩; have HO1 := Lib.hid ho.sl; have HP1 := Lib.hid (HO.out.below hb (Nat.le_refl _)); have HB1 := Lib.hid (HB.out.trans (hb.mono HB.out.size)); clear ho hb)
        | (go_at_call 47; refine (HMA.out _ _ _ HP1.out.sl HO1.out).mono ?_; rintro e w4 ⟨rfl, hb⟩; have HB4 := Lib.hid (HB1.out.trans (hb.mono HB1.out.size)); have HO6 := Lib.hid (HOR.out _ HB4.out); clear hb)
        | (refine wpList_store_row rfl 32 (.tmp 6) (.tmp 23) rfl (w.heap.size + 1) _ rfl rfl _ _ HO6.out HIT.out (by rw [bytes_size, bytes_size, HTZ.out]; rfl) (bytes_one _) ?_))
      have hb2 := HBX.out.trans (HB4.out.mono HBX.out.size)
      exact bodyPost_ret (results_cell_row Tryd.results48 _ _ (w.heap.size + 1) _ _ _ _ rfl (setRow_heap _ _ _ _ _ _ HO6.out) Tryd.underlying32 rfl HIT.out) rfl ⟨rfl, hb2.trans (((Kept.refl [w.heap.size + 1] w4).setRow (by simp) _).toBelow (B := w.heap.size) (by simp) hb2.size)⟩
end Go.Proofs.YtnoilogepkelaaaDoor
