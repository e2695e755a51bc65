/-
  The law EpochTwo: its walk.
-/
import Derived.Test.YtdnjjemdnlegdaaEp4
namespace Go.Proofs.Ytdnjjemdnlegdaa
set_option linter.unusedVariables false
set_option linter.unusedSimpArgs false
open Go Go.RowKit

/-- Two counters of one disk. -/
def TwoS (w : World) (p g x y a b : Nat) (wr : World) : Prop :=
  ∃ d, DiskAt wr p g d ∧ d.off = false ∧ d.left = -1 ∧ Ep.At d 0 2 a ∧ Ep.At d 2 2 b ∧ CtrAt wr x p ((0 : Nat) : Int) ((128 * 2 : Nat) : Int) (a : Int) ∧ CtrAt wr y p ((2 : Nat) : Int) ((128 * 2 : Nat) : Int) (b : Int) ∧ Below w.heap.size w wr ∧
    w.heap.size ≤ p ∧ w.heap.size ≤ g ∧ w.heap.size ≤ x ∧ w.heap.size ≤ y ∧ x ≠ p ∧ x ≠ g ∧ y ≠ p ∧ y ≠ g ∧ x ≠ y
theorem two_x {w wr : World} {p g x y a b : Nat} (h : TwoS w p g x y a b wr) (ha : a < 256) :
    Calls Try.prog 42 #[.pointer (some ⟨x, 0, none⟩)] wr fun e w' => e = .returned (.int .i64 0) ∧ TwoS w p g x y (a + 1) b w' := by
  obtain ⟨d, hD, ho, hl, hA, hB, hX, hY, hb, r1, r2, r3, r4, n1, n2, n3, n4, n5⟩ := h
  refine (ep_next_at hD 0 2 a hA ho (by rw [hl]; decide) hX (by omega) n1 n2).mono ?_
  rintro e w' ⟨rfl, d1, D1, A1, O1, L1, M1, S1, N1, C1, K1⟩
  exact ⟨rfl, d1, D1.out, O1.out, by rw [L1.out, hl]; decide, A1.out, hB.other N1.out (0 + a / 128) (by omega) S1.out, C1.out, hY.kept K1.out (by simp; omega), hb.trans (kept_pgc K1.out r1 r2 r3 hb.size), r1, r2, r3, r4, n1, n2, n3, n4, n5⟩
theorem two_y {w wr : World} {p g x y a b : Nat} (h : TwoS w p g x y a b wr) (hb' : b < 256) :
    Calls Try.prog 42 #[.pointer (some ⟨y, 0, none⟩)] wr fun e w' => e = .returned (.int .i64 0) ∧ TwoS w p g x y a (b + 1) w' := by
  obtain ⟨d, hD, ho, hl, hA, hB, hX, hY, hb, r1, r2, r3, r4, n1, n2, n3, n4, n5⟩ := h
  refine (ep_next_at hD 2 2 b hB ho (by rw [hl]; decide) hY (by omega) n3 n4).mono ?_
  rintro e w' ⟨rfl, d1, D1, A1, O1, L1, M1, S1, N1, C1, K1⟩
  exact ⟨rfl, d1, D1.out, O1.out, by rw [L1.out, hl]; decide, hA.other N1.out (2 + b / 128) (by omega) S1.out, A1.out, hX.kept K1.out (by simp; omega), C1.out, hb.trans (kept_pgc K1.out r1 r2 r4 hb.size), r1, r2, r3, r4, n1, n2, n3, n4, n5⟩

set_option maxRecDepth 100000 in
set_option maxHeartbeats 1000000 in
theorem law_epochTwo (a b : BitVec 8) (w : World) : Calls Try.prog 9 #[.int .u8 (bv a), .int .u8 (bv b)] w fun e w' => e = .returned (.bool true) ∧ Below w.heap.size w w' := by
  have HN := Lib.hid (dk_new 4 (by omega) (by omega) w)
  have HA0 := Lib.hid (Ep.at_fresh 4 0 2 (by omega))
  have HA2 := Lib.hid (Ep.at_fresh 4 2 2 (by omega))
  have HO0 := Lib.hid (show (Dk.fresh 4).off = false from rfl)
  have HL1 := Lib.hid (show (Dk.fresh 4).left = -1 from rfl)
  generalize Dk.fresh 4 = d0 at *
  have a0 := bv_nonneg a
  have a1 := bv_lt a
  have b0 := bv_nonneg b
  have b1 := bv_lt b
  obtain ⟨n, hn, hnl⟩ : ∃ n : Nat, bv a % 151 = n ∧ n ≤ 150 := ⟨(bv a % 151).toNat, by omega, by omega⟩
  obtain ⟨m, hm, hml⟩ : ∃ m : Nat, bv b % 151 = m ∧ m ≤ 150 := ⟨(bv b % 151).toNat, by omega, by omega⟩
  go_enter Try.func9, Try.ntmps9
  go_upto_region 4 with (go_at_call 14; refine HN.out.mono ?_; rintro e w1 ⟨p, g, rfl, hD1, hp1, hg1, hb1⟩; have HD1 := Lib.hid hD1; have HB1 := Lib.hid hb1; have hpl := hD1.ltp; have hgl := hD1.ltg; clear hD1 hb1)
  go_upto_region 5 with (go_at_call 41; refine (ep_open_at HD1.out 0 2 0 HA0.out HO0.out (by omega)).mono ?_; rintro e w2 ⟨x, rfl, hx, hC, hb⟩; have HX2 := Lib.hid hC; have HD2 := Lib.hid (HD1.out.below hb (Nat.le_refl _)); have HB2 := Lib.hid (HB1.out.trans (hb.mono HB1.out.size)); have hxl := hC.lt; have hz2 := hb.size; clear hC hb)
  go_upto_region 6 with (go_at_call 41; refine (ep_open_at HD2.out 2 2 0 HA2.out HO0.out (by omega)).mono ?_; rintro e w3 ⟨y, rfl, hy, hC, hb⟩; have HY3 := Lib.hid hC; have HX3 := Lib.hid (HX2.out.below hb (Nat.le_refl _)); have HD3 := Lib.hid (HD2.out.below hb (Nat.le_refl _)); have HB3 := Lib.hid (HB2.out.trans (hb.mono HB2.out.size)); clear hC hb)
  have hS : TwoS w p g x y 0 0 w3 := by
    have z1 := HB1.out.size
    exact ⟨d0, HD3.out, HO0.out, HL1.out, HA0.out, HA2.out, HX3.out, HY3.out, HB3.out, hp1, hg1, by omega, by omega, by omega, by omega, by omega, by omega, by omega⟩
  have HS := Lib.hid hS
  clear hS HD1 HB1 HD2 HB2 HX2 HD3 HB3 HX3 HY3 HN HA0 HA2 HO0 HL1 hp1 hg1 hx hy
  go_upto_region 9 with fail
  rw [hn, hm]
  clear hn hm a0 a1 b0 b1
  go_wp2
  go_loopw [13] (fun i wr => ∃ k : Nat, k ≤ max n m ∧ i = .int .i64 k ∧ Hid (TwoS w p g x y (min k n) (min k m) wr)) (fun i _ => max n m - (intOf i).toNat)
  case atStart => exact ⟨0, by omega, rfl, by rw [Nat.zero_min, Nat.zero_min]; exact HS⟩
  case round =>
    clear HS
    obtain ⟨k, hk, rfl, HS⟩ := hrel
    by_cases hlt : k < max n m
    · have hM : (k : Int) < n ∨ (k : Int) < m := by omega
      by_cases h1 : k < n
      · by_cases h2 : k < m
        · rw [show min k n = k by omega, show min k m = k by omega] at HS
          by_cases hnm : (n : Int) < m
          all_goals
            go_wp2_with (go_at_call 42; first | ((with_reducible refine (two_x HS.out (by omega)).mono ?_); rintro e w4 ⟨rfl, h4⟩; have H4 := Lib.hid h4; clear h4) | ((with_reducible refine (two_y H4.out (by omega)).mono ?_); rintro e w5 ⟨rfl, h5⟩; have H5 := Lib.hid h5; clear h5))
            go_roundw
            case measure => simp [intOf]; omega
            case rel => exact ⟨k + 1, by omega, by go_num, by rw [show min (k + 1) n = k + 1 by omega, show min (k + 1) m = k + 1 by omega]; exact H5⟩
        · rw [show min k n = k by omega, show min k m = m by omega] at HS
          have hnm : ¬ (n : Int) < m := by omega
          go_wp2_with (go_at_call 42; refine (two_x HS.out (by omega)).mono ?_; rintro e w4 ⟨rfl, h4⟩; have H4 := Lib.hid h4; clear h4)
          go_roundw
          case measure => simp [intOf]; omega
          case rel => exact ⟨k + 1, by omega, by go_num, by rw [show min (k + 1) n = k + 1 by omega, show min (k + 1) m = m by omega]; exact H4⟩
      · have h2 : k < m := by omega
        have hnm : (n : Int) < m := by omega
        rw [show min k n = n by omega, show min k m = k by omega] at HS
        go_wp2_with (go_at_call 42; refine (two_y HS.out (by omega)).mono ?_; rintro e w4 ⟨rfl, h4⟩; have H4 := Lib.hid h4; clear h4)
        go_roundw
        case measure => simp [intOf]; omega
        case rel => exact ⟨k + 1, by omega, by go_num, by rw [show min (k + 1) n = n by omega, show min (k + 1) m = k + 1 by omega]; exact H4⟩
    · rw [show min k n = n by omega, show min k m = m by omega] at HS
      obtain ⟨d, hD, ho, hl, hA, hB, hX, hY, hb, r1, r2, r3, r4, n1, n2, n3, n4, n5⟩ := HS.out
      have HD := Lib.hid hD
      have HO := Lib.hid ho
      have HA := Lib.hid hA
      have HB := Lib.hid hB
      have HX := Lib.hid hX
      have HBE := Lib.hid hb
      have HWK := Lib.hid works10_any
      have hb0 := hb.size
      have hM : ¬ (k : Int) < n ∧ ¬ (k : Int) < m := by omega
      have hM1 := hM.1
      have hM2 := hM.2
      clear hD ho hl hA hB hX hY hb r1 r2 r3 r4 n1 n2 n3 n4 n5 HS hM hlt hk
      by_cases hnm : (n : Int) < m
      all_goals
        go_upto_region 15 with (go_at_call 41; refine (ep_open_at HD.out 0 2 n HA.out HO.out (by omega)).mono ?_; rintro e w4 ⟨c, rfl, hc, hC, hb⟩; have HC4 := Lib.hid hC; have HD4 := Lib.hid (HD.out.below hb (Nat.le_refl _)); have HX4 := Lib.hid (HX.out.below hb (Nat.le_refl _)); have HB4 := Lib.hid (HBE.out.trans (hb.mono hb0)); clear hC hb)
        go_upto_region 16 with (go_at_call 41; refine (ep_open_at HD4.out 2 2 m HB.out HO.out (by omega)).mono ?_; rintro e w5 ⟨c', rfl, hc', hC, hb⟩; have HC5 := Lib.hid hC; have HQ5 := Lib.hid (HC4.out.below hb (Nat.le_refl _)); have HX5 := Lib.hid (HX4.out.below hb (Nat.le_refl _)); have HB5 := Lib.hid (HB4.out.trans (hb.mono HB4.out.size)); have hz5 := HB5.out.size; clear hC hb)
        have HV1 := Lib.hid (ep_value HQ5.out)
        have HV2 := Lib.hid (ep_value HC5.out)
        have HV3 := Lib.hid (ep_value HX5.out)
        go_wp2_with (first
          | (go_at_call 43; first | ((with_reducible refine HV1.out.mono ?_); rintro e w' ⟨rfl, rfl⟩) | ((with_reducible refine HV2.out.mono ?_); rintro e w' ⟨rfl, rfl⟩) | ((with_reducible refine HV3.out.mono ?_); rintro e w' ⟨rfl, rfl⟩))
          | (go_at_call 44; refine (HWK.out _).mono ?_; rintro e w' ⟨rfl, hbw⟩))
        go_ret
        exact ⟨rfl, HB5.out.trans (hbw.mono hz5)⟩
end Go.Proofs.Ytdnjjemdnlegdaa
