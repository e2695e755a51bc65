/-
  The document's hmac: changed, Block.
-/
import Derived.Test.YtnoilogepkelaaaDoorHmaD
import Derived.Test.YtnoilogepkelaaaDoorRsI
namespace Go.Proofs.YtnoilogepkelaaaDoor
set_option linter.unusedVariables false
set_option linter.unusedSimpArgs false
open Go Go.RowKit
attribute [local go_sem] u8_xor'

theorem Rhm.take_next (b : List (BitVec 8)) (i : Nat) (h : i < b.length) : b.take (i + 1) = b.take i ++ [b.getD i 0] := by
  rw [List.take_add_one]
  simp [h]
theorem Rhm.by_next (x : BitVec 8) (b : List (BitVec 8)) (i : Nat) (h : i < b.length) : Hma.by_ x (b.take (i + 1)) = Hma.by_ x (b.take i) ++ [b.getD i 0 ^^^ x] := by
  rw [Rhm.take_next b i h]
  simp [Hma.by_]

set_option maxRecDepth 100000 in
set_option maxHeartbeats 4000000 in
theorem rchanged_any (b : List (BitVec 8)) (hb : b.length = 64) (x : BitVec 8) (v : Value) (w : World) (hs : SlB w v b) :
    Calls Tryd.prog 75 #[v, .int .u8 (bv x)] w (RetB w (Hma.by_ x b)) := by
  obtain ⟨b0, o0, cap0, rfl, hc0, _⟩ := hs.open_ 64 hb (by omega)
  have HS := Lib.hid hs
  have HBL := Lib.hid hb
  have HN := Lib.hid (fun i (h : i < 64) => Rhm.by_next x b i (by omega))
  have HL := Lib.hid (fun i => (show (Hma.by_ x (b.take i)).length = min i b.length by simp [Hma.by_]))
  have HA := Lib.hid (show Hma.by_ x (b.take 64) = Hma.by_ x b by rw [List.take_of_length_le (by omega)])
  have H0 := Lib.hid (show Hma.by_ x (b.take 0) = [] from rfl)
  clear hs hb
  go_enter Tryd.func75, Tryd.ntmps75
  go_wp2
  go_loopw [5, 6] (fun s5 s6 wr => ∃ i : Nat, i ≤ 64 ∧ s6 = .int .i64 i ∧ Hid (OwnB 5 w.heap.size wr s5 (Hma.by_ x (b.take i))) ∧ Hid (Below w.heap.size w wr)) (fun _ s6 _ => 64 - (intOf s6).toNat)
  case atStart => exact ⟨0, by omega, rfl, Lib.hid (by rw [H0.out]; exact OwnB.nil _ _ _), Below.refl _ _⟩
  case round =>
    obtain ⟨i, hi, rfl, HO, HB⟩ := hrel
    have hsz := HB.out.size
    by_cases hlt : i < 64
    · have c0 := (HS.out.below HB.out (Nat.le_refl _)).cell i (by rw [HBL.out]; omega)
      unfold byteV at c0
      have hn := HN.out i hlt
      generalize b.getD i 0 = y at c0 hn
      have HT := Lib.hid hn
      have HLI := Lib.hid (show (Hma.by_ x (b.take i)).length ≤ 64 by rw [HL.out]; omega)
      clear hn
      go_wp2_with (at_builtin; refine wpList_append_b rfl (.tmp 13) (.tmp 20) 22 5 rfl Tryd.underlying22 info_u8 w.heap.size _ _ (HO.out.alloc _) rfl _ [y ^^^ x] (one_byte _ _ _ rfl) rfl (by have := HLI.out; simp only [List.length_singleton]; omega) (by simp; omega) ?_; intro v3 w3 ho hg hn'; rw [← HT.out] at ho; have HO3 := Lib.hid ho; have HB3 := Lib.hid ((HB.out.alloc hsz _).grown hg (by simp; omega) (fun k e => (World.ownsRow.lt HO.out k e).1)); clear ho hg hn')
      exact ⟨⟨i + 1, by omega, by go_num, HO3, HB3⟩, by simp [intOf]; omega⟩
    · obtain rfl : i = 64 := by omega
      rw [HA.out] at HO
      go_wp2
      go_ret
      exact ⟨_, rfl, HO.out, HB.out⟩

set_option maxRecDepth 100000 in
set_option maxHeartbeats 4000000 in
theorem rblock_any (key : List (BitVec 8)) (v : Value) (w : World) (hs : SlB w v key) (hl : key.length ≤ 50000000) :
    Calls Tryd.prog 76 #[v] w (RetB w (Hma.kblock key)) := by
  obtain ⟨a, cap, rfl⟩ := hs.len
  have HSU := Lib.hid (fun W (hB : Below w.heap.size w W) => rsum_any key _ W (hs.below hB (Nat.le_refl _)) hl)
  have HIH := Lib.hid (show (Tryd.prog.info? 32).map (·.size) = some (bytes (Sha.sum key)).size by rw [bytes_size, Sha.sum_length]; kernel_rfl)
  have HS := Lib.hid hs
  have HSL := Lib.hid (Sha.sum_length key)
  have HSH := Lib.hid (show Hma.short key = if 64 < key.length then Sha.sum key else key from rfl)
  have HKZ := Lib.hid (Hma.short_length key)
  have HKB := Lib.hid (show Hma.kblock key = Hma.short key ++ List.replicate (64 - (Hma.short key).length) 0 from rfl)
  obtain ⟨D, hD⟩ : ∃ D, Sha.sum key = D := ⟨_, rfl⟩
  rw [hD] at HSU HIH HSH HSL
  have HTK := Lib.hid (fun i (h : i < 32) => Rhm.take_next D i (by rw [HSL.out]; omega))
  have HT32 := Lib.hid (show D.take 32 = D from List.take_of_length_le (by rw [HSL.out]; omega))
  have HCE := Lib.hid (fun i (h : i < 32) => bytes_get? D i (by rw [HSL.out]; omega))
  have HLN := Lib.hid (fun i => (show (D.take i).length = min i D.length from List.length_take))
  obtain ⟨n, hn⟩ : ∃ n, key.length = n := ⟨_, rfl⟩
  have HNK := Lib.hid hn
  rw [hn] at HSU HS HSH hl ⊢
  clear hs hn hD
  go_enter Tryd.func76, Tryd.ntmps76
  go_upto_if 8 with (fail)
  go_cut [3] (fun s3 wx => Hid (OwnB 5 w.heap.size wx s3 (Hma.short key)) ∧ Hid (Below w.heap.size w wx))
  case first =>
    by_cases h : 64 < n
    · have h' : (64 : Int) < (n : Int) := by omega
      rw [if_pos h] at HSH
      go_upto_region 4 with (first
        | (go_at_call 33; refine (HSU.out _ (Below.refl _ w)).mono ?_; rintro e w2 ⟨rfl, hb⟩; have HB2 := Lib.hid hb; clear hb)
        | (refine wpList_store_row rfl 32 (.tmp 4) (.tmp 10) rfl _ _ rfl rfl _ _ (heap_alloc_new _ _) HIH.out (by rw [bytes_size, HSL.out]; rfl) (bytes_one _) ?_; rw [World.setRow_alloc_new]))
      obtain ⟨Y, hY, hBY, hYs, hY0⟩ := alloc1 w2 (.cells (bytes D) 32)
      rw [hY]
      have hz2 := HB2.out.size
      have HBY := Lib.hid (HB2.out.trans (hBY.mono hz2))
      have HYS := Lib.hid (show w2.heap.size < Y.heap.size by omega)
      have HY0 := Lib.hid hY0
      obtain ⟨G, hG⟩ : ∃ G, w2.heap.size = G := ⟨_, rfl⟩
      rw [hG] at HY0 HYS ⊢
      clear hY hBY hYs hY0 hz2 hG HB2
      go_wp2
      go_loopw [3, 5] (fun s3 s5 wr => ∃ i : Nat, i ≤ 32 ∧ s5 = .int .i64 i ∧ Hid (OwnB 5 Y.heap.size wr s3 (D.take i)) ∧ Hid (Below Y.heap.size Y wr)) (fun _ s5 _ => 32 - (intOf s5).toNat)
      case atStart => exact ⟨0, by omega, rfl, OwnB.nil _ _ _, Below.refl _ _⟩
      case round =>
        obtain ⟨i, hi, rfl, HO, HB⟩ := hrel
        have hsz := HB.out.size
        by_cases hlt : i < 32
        · have c0 := (cell_of_row wr G i _ _ _ ((HB.out.block _ HYS.out).trans HY0.out)).trans (HCE.out i hlt)
          have htk := HTK.out i hlt
          generalize D.getD i 0 = y at c0 htk
          have HT := Lib.hid htk
          have HL := Lib.hid (show (D.take i).length ≤ 64 by rw [HLN.out]; omega)
          clear htk
          go_wp2_with (at_builtin; refine wpList_append_b rfl (.tmp 15) (.tmp 19) 22 5 rfl Tryd.underlying22 info_u8 Y.heap.size _ _ (HO.out.alloc _) rfl _ [y] (one_byte _ _ _ rfl) rfl (by have := HL.out; simp only [List.length_singleton]; omega) (by simp; omega) ?_; intro v3 w3 ho hg hn'; rw [← HT.out] at ho; have HO3 := Lib.hid ho; have HB3 := Lib.hid ((HB.out.alloc hsz _).grown hg (by simp; omega) (fun k e => (World.ownsRow.lt HO.out k e).1)); clear ho hg hn')
          exact ⟨⟨i + 1, by omega, by go_num, HO3, HB3⟩, by simp [intOf]; omega⟩
        · obtain rfl : i = 32 := by omega
          rw [HT32.out, ← HSH.out] at HO
          have HBw := Lib.hid (HBY.out.trans (HB.out.mono HBY.out.size))
          have HOw := Lib.hid (HO.out.mono HBY.out.size)
          go_wp2
          go_meet
          case rel => exact ⟨HOw, HBw⟩
    · have h' : ¬ (64 : Int) < (n : Int) := by omega
      rw [if_neg h] at HSH
      go_wp2_with (at_builtin; refine wpList_append_b rfl (.tmp 21) (.tmp 22) 22 5 rfl Tryd.underlying22 info_u8 w.heap.size (.slice none 0 0) [] (OwnB.nil _ _ _) rfl _ key HS.out rfl (by rw [HNK.out]; simp; omega) (Nat.le_refl _) ?_; intro v2 w1 ho hg hn'; rw [List.nil_append, ← HSH.out] at ho; have HO1 := Lib.hid ho; have HB1 := Lib.hid ((Below.refl w.heap.size w).grown hg (Nat.le_refl _) (fun k e => by cases e)); clear ho hg hn')
      go_meet
      case rel => exact ⟨HO1, HB1⟩
  case rest =>
    clear HS HSU HSH HIH HTK HT32 HCE HLN HSL HNK
    obtain ⟨HO0, HB0⟩ := hcut
    obtain ⟨K, hK⟩ : ∃ K, Hma.short key = K := ⟨_, rfl⟩
    rw [hK] at HO0 HKZ HKB
    clear hK
    obtain ⟨m, hm⟩ : ∃ m, K.length = m := ⟨_, rfl⟩
    have HM := Lib.hid hm
    rw [hm] at HKZ HKB
    clear hm
    go_wp2
    go_loopw [3] (fun s3 wr => ∃ r q : Nat, m + r = q ∧ q ≤ 64 ∧ (∃ a c, s3 = .slice a q c) ∧ Hid (OwnB 5 w.heap.size wr s3 (K ++ List.replicate r 0)) ∧ Hid (Below w.heap.size w wr)) (fun s3 _ => 100 - (match s3 with | .slice _ l _ => l | _ => 0))
    case atStart => exact ⟨0, m, by omega, HKZ.out, by have := HO0.out.sl.len; rw [HM.out] at this; exact this, by rw [List.replicate_zero, List.append_nil]; exact HO0, HB0⟩
    case round =>
      clear HO0 HB0
      obtain ⟨r, q, hq, hq64, ⟨a3, c3, rfl⟩, HO, HB⟩ := hrel
      have HQ := Lib.hid hq
      have hsz := HB.out.size
      have HRL := Lib.hid (show ∀ r, (K ++ List.replicate r (0 : BitVec 8)).length = m + r from fun r => by rw [List.length_append, List.length_replicate, HM.out])
      clear hq
      by_cases hlt : q < 64
      · go_wp2_with (at_builtin; refine wpList_append_b rfl (.tmp 27) (.tmp 28) 22 5 rfl Tryd.underlying22 info_u8 w.heap.size _ _ (HO.out.alloc _) rfl _ [0] (one_byte _ _ 0 rfl) rfl (by rw [HRL.out]; have := HQ.out; simp only [List.length_singleton]; omega) (by simp; omega) ?_; intro v3 w3 ho hg hn'; rw [List.append_assoc, ← List.replicate_succ'] at ho; have HO3 := Lib.hid ho; have HB3 := Lib.hid ((HB.out.alloc hsz _).grown hg (by simp; omega) (fun k e => (World.ownsRow.lt HO.out k e).1)); clear ho hg hn')
        obtain ⟨a5, cap5, rfl⟩ := HO3.out.sl.len
        rw [HRL.out] at HO3 ⊢
        refine ⟨⟨r + 1, m + (r + 1), rfl, by have := HQ.out; omega, ⟨_, _, rfl⟩, HO3, HB3⟩, ?_⟩
        have h1 := HQ.out
        simp
        omega
      · have hf : ¬ (q : Int) < 64 := by omega
        have HO' : Hid (OwnB 5 w.heap.size wr (.slice a3 q c3) (Hma.kblock key)) := by
          have h1 := HQ.out
          rw [HKB.out, show 64 - m = r by omega]
          exact HO
        clear HO
        go_wp2
        go_ret
        exact ⟨_, rfl, HO'.out, HB.out⟩
end Go.Proofs.YtnoilogepkelaaaDoor
