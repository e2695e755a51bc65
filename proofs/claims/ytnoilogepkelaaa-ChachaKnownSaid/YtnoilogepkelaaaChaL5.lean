/-
  The law ChachaKnown's walk: the key of the examples.
-/
import Derived.Test.YtnoilogepkelaaaChaL3
namespace Go.Proofs.Ytnoilogepkelaaa
set_option linter.unusedVariables false
set_option linter.unusedSimpArgs false
open Go Go.RowKit

def givenKey : List (BitVec 8) := (List.range 32).map fun j => BitVec.ofNat 8 j
theorem givenKey_length : givenKey.length = 32 := by simp [givenKey]

set_option maxRecDepth 100000 in
set_option maxHeartbeats 1000000 in
theorem given_any (w : World) : Calls Try.prog 16 #[] w fun e w' => e = .returned (.agg (bytes givenKey)) ∧ Below w.heap.size w w' := by
  have HI := Lib.hid (fun (xs : List (BitVec 8)) (h : xs.length = 32) => (show (Try.prog.info? 29).map (·.size) = some (bytes xs).size by rw [bytes_size, h]; kernel_rfl))
  go_enter Try.func16, Try.ntmps16
  go_upto_region 2 with fail
  obtain ⟨W, hW, hBW, hWs, hW0, hW1⟩ := alloc2 w (Obj.cells (bytes (fill (fun j => BitVec.ofNat 8 j) 0 32 0)) 29) (Obj.cells (bytes (fill (fun j => BitVec.ofNat 8 j) 0 32 0)) 29)
  have hW' := hW
  simp only [fill, bytes, List.range_zero, List.map_nil, List.nil_append, Nat.sub_zero, List.replicate, List.map] at hW'
  rw [show (Value.int .u8 (bv 0)) = .int .u8 0 from rfl] at hW'
  rw [hW']
  have H0 := Lib.hid hW0
  have H1 := Lib.hid hW1
  have HB := Lib.hid hBW
  clear hW hW' hBW hWs hW0 hW1
  go_wp2
  go_loopw [2] (fun s wr => ∃ i : Nat, i ≤ 32 ∧ s = .int .i64 i ∧ Hid (wr.heap[w.heap.size]? = some (.cells (bytes (fill (fun j => BitVec.ofNat 8 j) 0 32 0)) 29 (0, 0))) ∧ Hid (wr.heap[w.heap.size + 1]? = some (.cells (bytes (fill (fun j => BitVec.ofNat 8 j) 0 32 i)) 29 (0, 0))) ∧ Hid (Below w.heap.size w wr)) (fun s _ => 32 - (intOf s).toNat)
  case atStart => exact ⟨0, by omega, rfl, H0, H1, HB⟩
  case round =>
    clear H0 H1 HB
    obtain ⟨i, hi, rfl, H0, H1, HB⟩ := hrel
    by_cases hlt : i < 32
    · have hfl := fill_length (fun j => BitVec.ofNat 8 j) 0 32 i hi
      have c0 := (cell_of_row wr (w.heap.size + 1) i _ _ _ H1.out).trans (bytes_get? _ i (by rw [hfl]; exact hlt))
      have f0 := frozen_of_row wr (w.heap.size + 1) i _ _ H1.out
      have hset := heap_setCell_same wr (w.heap.size + 1) i _ _ (.int .u8 (bv (BitVec.ofNat 8 i))) H1.out
      rw [bytes_set, fill_set (fun j => BitVec.ofNat 8 j) 0 32 i hlt, show bv (BitVec.ofNat 8 i) = (i : Int) by unfold bv; rw [BitVec.toNat_ofNat]; omega] at hset
      have HS := Lib.hid hset
      have HS0 := Lib.hid ((heap_setCell_other wr ⟨w.heap.size + 1, i, none⟩ w.heap.size (.int .u8 (i : Int)) (by simp)).trans H0.out)
      have HB2 := Lib.hid (HB.out.setCell (p := ⟨w.heap.size + 1, i, none⟩) (by simp) (.int .u8 (i : Int)))
      generalize (fill (fun j => BitVec.ofNat 8 j) 0 32 i).getD i 0 = z at c0
      clear hset hfl
      go_wp2
      exact ⟨⟨i + 1, by omega, by go_num, HS0, HS, HB2⟩, by simp [intOf]; omega⟩
    · obtain rfl : i = 32 := by omega
      rw [fill_all] at H1
      have H1' := Lib.hid (show wr.heap[w.heap.size + 1]? = some (.cells (bytes givenKey) 29 (0, 0)) from H1.out)
      clear H1
      have hI := HI.out givenKey givenKey_length
      have HIK := Lib.hid hI
      have hr : (wr.setRow w.heap.size (bytes givenKey)).heap[w.heap.size]? = some (.cells (bytes givenKey) 29 (0, 0)) := setRow_heap _ _ _ _ _ _ H0.out
      have HR := Lib.hid hr
      have HB2 := Lib.hid (HB.out.trans (((Kept.refl [w.heap.size] wr).setRow (show w.heap.size ∈ [w.heap.size] by simp) (bytes givenKey)).toBelow (B := w.heap.size) (by simp) HB.out.size))
      clear hI hr
      go_wp2_with (first
        | (refine wpList_load_row rfl 29 (.tmp 1) rfl (w.heap.size + 1) rfl _ _ _ _ H1'.out Try.underlying29 rfl HIK.out ?_)
        | (refine wpList_store_row rfl 29 (.tmp 0) (.tmp 11) rfl w.heap.size _ rfl rfl _ _ H0.out HIK.out (by rw [bytes_size, bytes_size, givenKey_length, fill_length _ _ _ _ (by omega)]) (bytes_one _) ?_))
      exact bodyPost_ret (results_cell_row Try.results16 _ _ w.heap.size _ _ _ _ rfl HR.out Try.underlying29 rfl HIK.out) rfl ⟨rfl, HB2.out⟩

def knownNonce : List (BitVec 8) := [0, 0, 0, 9, 0, 0, 0, 0x4a, 0, 0, 0, 0]
def wantList : List (BitVec 8) := [0x10, 0xf1, 0xe7, 0xe4, 0xd1, 0x3b, 0x59, 0x15, 0x50, 0x0f, 0xdd, 0x1f, 0xa3, 0x20, 0x71, 0xc4]
theorem block_known : (Cha.block givenKey 1 knownNonce).take 16 = wantList := by decide +kernel
theorem known_at (j : Nat) (h : j < 16) : (Cha.block givenKey 1 knownNonce).getD j 0 = wantList.getD j 0 := by
  rw [← block_known, Cha.getD_take _ _ _ h]

theorem made_sl (w : World) (n : Nat) (hn : n ≤ maxLen) {Z : Array Value} (hZ : Z = bytes (List.replicate n 0)) : SlB (w.alloc (.cells Z 5)) (.slice (some ⟨w.heap.size, 0, none⟩) n n) (List.replicate n 0) := by
  subst hZ
  have h := (OwnB.made (E := 5) (base := 0) w (List.replicate n 0) (Nat.zero_le _) (by simpa using hn)).sl
  rwa [List.length_replicate] at h
theorem z12 : bytes (List.replicate 12 0) = #[.int .u8 0, .int .u8 0, .int .u8 0, .int .u8 0, .int .u8 0, .int .u8 0, .int .u8 0, .int .u8 0, .int .u8 0, .int .u8 0, .int .u8 0, .int .u8 0] := rfl
theorem last_word : wv 4294967295#32 = 4294967295 := rfl
theorem known_err (v : Value) (W : World) (h : SlB W v (List.replicate 65 0)) : Calls Try.prog 14 #[.agg (bytes givenKey), .int .u32 4294967295, .agg #[.int .u8 0, .int .u8 0, .int .u8 0, .int .u8 0, .int .u8 0, .int .u8 0, .int .u8 0, .int .u8 0, .int .u8 0, .int .u8 0, .int .u8 0, .int .u8 0], v] W fun e w' => e = .returned (.tuple #[.slice none 0 0, .int .i64 13]) ∧ Below W.heap.size W w' := by
  have h := stream_err givenKey (List.replicate 12 0) _ 4294967295#32 v W h givenKey_length rfl (by simp) (by decide +kernel)
  rw [z12, last_word] at h
  exact h
theorem known_ok (n : Nat) (hn : n ≤ 64) (v : Value) (W : World) (h : SlB W v (List.replicate n 0)) : Calls Try.prog 14 #[.agg (bytes givenKey), .int .u32 4294967295, .agg #[.int .u8 0, .int .u8 0, .int .u8 0, .int .u8 0, .int .u8 0, .int .u8 0, .int .u8 0, .int .u8 0, .int .u8 0, .int .u8 0, .int .u8 0, .int .u8 0], v] W fun e w' => ∃ a cap, e = .returned (.tuple #[.slice a n cap, .int .i64 0]) ∧ Below W.heap.size W w' := by
  have h := stream_good givenKey (List.replicate 12 0) _ 4294967295#32 v W h givenKey_length rfl (by simp; omega) (by
    simp only [Cha.fits, List.length_replicate, Bool.or_eq_true, decide_eq_true_eq]
    have : (4294967295#32).toNat = 4294967295 := rfl
    omega)
  rw [z12, last_word] at h
  refine h.mono ?_
  rintro e w' ⟨v', rfl, ho, hb⟩
  obtain ⟨a, cap, rfl⟩ := ho.sl.len
  rw [Cha.stream_length, List.length_replicate]
  exact ⟨a, cap, rfl, hb⟩

set_option maxRecDepth 100000 in
set_option maxHeartbeats 4000000 in
theorem law_chachaKnown {w : World} : Calls Try.prog 6 #[] w fun e w' => e = .returned (.bool true) ∧ Below w.heap.size w w' := by
  have HG := Lib.hid given_any
  have HAW := Lib.hid awake_any
  have HBK := Lib.hid (fun W => block_any givenKey knownNonce 1 W givenKey_length rfl)
  have hbl := Cha.block_length givenKey 1 knownNonce
  have HBL := Lib.hid hbl
  have HKN := Lib.hid known_at
  obtain ⟨blk, hblk⟩ : ∃ blk, blk = Cha.block givenKey 1 knownNonce := ⟨_, rfl⟩
  rw [← hblk] at HBK HBL HKN hbl
  have IB := Lib.hid (show (Try.prog.info? 34).map (·.size) = some (bytes blk).size by rw [bytes_size, hbl]; kernel_rfl)
  have ZB := Lib.hid (show (bytes (List.replicate 64 0)).size = (bytes blk).size by rw [bytes_size, bytes_size, hbl]; rfl)
  have IW := Lib.hid (show (Try.prog.info? 48).map (·.size) = some (bytes wantList).size by kernel_rfl)
  clear hbl hblk
  go_enter Try.func6, Try.ntmps6
  go_upto_region 3 with (first
    | (go_at_call 16; refine (HG.out _).mono ?_; rintro e w1 ⟨rfl, hb⟩; have HB1 := Lib.hid hb; clear hb)
    | (go_at_call 12; refine (HBK.out _).mono ?_; rintro e w2 ⟨rfl, hb⟩; have HB2 := Lib.hid hb; clear hb)
    | (refine wpList_store_row rfl 34 (.tmp 1) (.tmp 12) rfl _ _ rfl rfl _ _ (heap_alloc_new _ _) IB.out ZB.out (bytes_one _) ?_; rw [World.setRow_alloc_new])
    | (refine wpList_store_row rfl 48 (.tmp 2) (.tmp 13) rfl _ (bytes wantList) rfl rfl _ _ (heapA_new _ _ _ (by simp)) IW.out rfl (bytes_one _) ?_; rw [setRow_at _ _ _ _ _ (by simp)]))
  have hz1 := HB1.out.size
  have hz2 := HB2.out.size
  obtain ⟨X, hX, hBX, hXs, hX0, hX1⟩ := alloc2 w2 (.cells (bytes blk) 34) (.cells (bytes wantList) 48)
  rw [hX]
  have H0 := Lib.hid hX0
  have H1 := Lib.hid hX1
  have HB := Lib.hid (HB1.out.trans ((HB2.out.trans (hBX.mono hz2)).mono hz1))
  generalize w2.heap.size = D at *
  clear hX hBX hX0 hX1 hXs HB1 HB2 hz1 hz2 IB ZB IW HBK
  go_wp2
  go_loopw [3] (fun s wr => ∃ i : Nat, i ≤ 16 ∧ s = .int .i64 i ∧ Hid (wr.heap[D]? = some (.cells (bytes blk) 34 (0, 0))) ∧ Hid (wr.heap[D + 1]? = some (.cells (bytes wantList) 48 (0, 0))) ∧ Hid (Below w.heap.size w wr)) (fun s _ => 16 - (intOf s).toNat)
  case atStart => exact ⟨0, by omega, rfl, H0, H1, HB⟩
  case round =>
    clear H0 H1 HB
    obtain ⟨i, hi, rfl, H0, H1, HB⟩ := hrel
    by_cases hlt : i < 16
    · have c0 := (cell_of_row wr D i _ _ _ H0.out).trans (bytes_get? _ i (by rw [HBL.out]; omega))
      have c1 := (cell_of_row wr (D + 1) i _ _ _ H1.out).trans (bytes_get? wantList i hlt)
      rw [HKN.out i hlt] at c0
      generalize wantList.getD i 0 = z at c0 c1
      have hi16 : (i : Int) < 16 := by omega
      have hi64 : (i : Int) < 64 := by omega
      have hiw : IntKind.i64.wrap (i : Int) = i := by rw [IntKind.wrap_i64]; omega
      go_upto_region 6 with fail
      go_cut [24] (fun s wx => s = .bool false ∧ ∃ m, wx = wr.drewN m)
      case first =>
        go_quiet (fail)
        go_wp2_with fail
        go_meet
        case rel => exact ⟨rfl, _, rfl⟩
      case rest =>
        obtain ⟨rfl, m, rfl⟩ := hcut
        go_wp2
        exact ⟨⟨i + 1, by omega, by go_num, H0, H1, Lib.hid (Below.drewN HB.out m)⟩, by simp [intOf]; omega⟩
    · obtain rfl : i = 16 := by omega
      clear H0 H1
      go_upto_region 8 with fail
      obtain ⟨Z, hZ⟩ : ∃ Z, Z = bytes (List.replicate 65 0) := ⟨_, rfl⟩
      have hmk := made_bytes 65 (by omega)
      rw [← hZ, show ((65 : Nat) : Int) = 65 from rfl] at hmk
      have HZ := Lib.hid hZ
      clear hZ
      go_cut [4, 5] (fun s4 s5 wx => s4 = .slice none 0 0 ∧ s5 = .int .i64 13 ∧ Hid (Below w.heap.size w wx))
      case first =>
        go_region_with (first
        | (go_at_call 16; refine (HG.out _).mono ?_; rintro e wa ⟨rfl, hb⟩; have HBa := Lib.hid hb; clear hb)
        | (go_at_call 14; with_reducible refine Calls.mono (known_err _ _ (made_sl wa 65 (by decide) HZ.out)) ?_; rintro e ws ⟨rfl, hb⟩; have HBs := Lib.hid hb; clear hb)
        | (go_at_call 14; with_reducible refine Calls.mono (known_err _ _ ((made_sl wr 65 (by decide) HZ.out).drew.below HBa.out (Nat.le_refl _))) ?_; rintro e ws ⟨rfl, hb⟩; have HBs := Lib.hid hb; clear hb))
        all_goals (go_wp2_with fail; go_meet)
        all_goals refine ⟨rfl, rfl, Lib.hid ?_⟩
        · have b1 := HB.out.drew.trans (HBa.out.mono HB.out.size)
          exact (b1.alloc b1.size _).trans (HBs.out.mono (by have := b1.size; simp; omega))
        · have b1 := (HB.out.alloc HB.out.size (.cells Z 5)).drew
          have b2 := b1.trans (HBa.out.mono b1.size)
          exact b2.trans (HBs.out.mono b2.size)
      case rest =>
        obtain ⟨rfl, rfl, HB4⟩ := hcut
        clear hmk HZ HB
        rename World => wq
        obtain ⟨Z, hZ⟩ : ∃ Z, Z = bytes (List.replicate 64 0) := ⟨_, rfl⟩
        have hmk := made_bytes 64 (by omega)
        rw [← hZ, show ((64 : Nat) : Int) = 64 from rfl] at hmk
        have HZ := Lib.hid hZ
        clear hZ
        go_upto_region 9 with fail
        go_cut [6, 7] (fun s6 s7 wx => (∃ a cap, s6 = .slice a 64 cap) ∧ s7 = .int .i64 0 ∧ Hid (Below w.heap.size w wx))
        case first =>
          go_region_with (first
            | (go_at_call 16; refine (HG.out _).mono ?_; rintro e wa ⟨rfl, hb⟩; have HBa := Lib.hid hb; clear hb)
            | (go_at_call 14; with_reducible refine Calls.mono (known_ok 64 (by omega) _ _ (made_sl wa 64 (by decide) HZ.out)) ?_; rintro e ws ⟨a5, c5, rfl, hb⟩; have HBs := Lib.hid hb; clear hb)
            | (go_at_call 14; with_reducible refine Calls.mono (known_ok 64 (by omega) _ _ ((made_sl wq 64 (by decide) HZ.out).drew.below HBa.out (Nat.le_refl _))) ?_; rintro e ws ⟨a5, c5, rfl, hb⟩; have HBs := Lib.hid hb; clear hb))
          all_goals (go_wp2_with fail; go_meet)
          all_goals refine ⟨⟨_, _, rfl⟩, rfl, Lib.hid ?_⟩
          · have b1 := HB4.out.drew.trans (HBa.out.mono HB4.out.size)
            exact (b1.alloc b1.size _).trans (HBs.out.mono (by have := b1.size; simp; omega))
          · have b1 := (HB4.out.alloc HB4.out.size (.cells Z 5)).drew
            have b2 := b1.trans (HBa.out.mono b1.size)
            exact b2.trans (HBs.out.mono b2.size)
        case rest =>
          obtain ⟨⟨a6, c6, rfl⟩, rfl, HB5⟩ := hcut
          clear hmk HZ HB4
          have HK0 := Lib.hid (fun W => known_ok 0 (by omega) (.slice none 0 0) W (SlB.nil W))
          go_wp2_with (first
            | (go_at_call 16; refine (HG.out _).mono ?_; rintro e wa ⟨rfl, hb⟩; have HBa := Lib.hid hb; clear hb)
            | (go_at_call 14; refine (HK0.out _).mono ?_; rintro e ws ⟨a7, c7, rfl, hb⟩; have HBs := Lib.hid hb; clear hb)
            | (go_at_call 10; refine (HAW.out _).mono ?_; rintro e w6 ⟨rfl, hbw⟩))
          go_ret
          have b1 := HB5.out.trans (HBa.out.mono HB5.out.size)
          have b2 := b1.trans (HBs.out.mono b1.size)
          exact ⟨rfl, b2.trans (hbw.mono b2.size)⟩
end Go.Proofs.Ytnoilogepkelaaa
