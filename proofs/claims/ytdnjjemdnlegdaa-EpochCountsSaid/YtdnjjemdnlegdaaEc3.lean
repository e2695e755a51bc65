/-
  The law EpochCounts: its walk.
-/
import Derived.Test.YtdnjjemdnlegdaaEc2
import Derived.Test.YtdnjjemdnlegdaaDc2
namespace Go.Proofs.Ytdnjjemdnlegdaa
set_option linter.unusedVariables false
set_option linter.unusedSimpArgs false
open Go Go.RowKit
attribute [local go_sem] shape?_at shape?_past markS_drew markS_size markS_cell

/-- The disk behind the first Put, and behind the second. -/
def CP (w : World) (p g : Nat) (d : Dk.D) (wr : World) : Prop := DiskAt wr p g d ∧ Below w.heap.size w wr ∧ w.heap.size ≤ p ∧ w.heap.size ≤ g
theorem CP.put {w : World} {p g : Nat} {d d' : Dk.D} {wr : World} (h : CP w p g d wr) (at_ : Int) (v : Value) (xs : List (BitVec 8)) (hs : SlB wr v xs) (hl : xs.length ≤ 1000000000) (ha0 : -9223372036854775808 ≤ at_) (ha1 : at_ ≤ 9223372036854775807) (hd : Dk.putAt d at_ xs = (d', 0)) :
    Calls Try.prog 16 #[.pointer (some ⟨p, 0, none⟩), .int .i64 at_, v] wr fun e w' => e = .returned (.int .i64 0) ∧ CP w p g d' w' := by
  have H := dk_put h.1 at_ v xs hs hl ha0 ha1
  rw [hd] at H
  exact H.mono fun e w' ⟨he, h1, hk⟩ => ⟨he, h1, h.2.1.trans (hk.toBelow (by intro k hk; simp at hk; have := h.2.2; omega) h.2.1.size), h.2.2⟩
theorem CP.below {w : World} {p g : Nat} {d : Dk.D} {wr w' : World} (h : CP w p g d wr) (hb : Below wr.heap.size wr w') : CP w p g d w' := ⟨h.1.below hb (Nat.le_refl _), h.2.1.trans (hb.mono h.2.1.size), h.2.2⟩
theorem one_x (wx : World) : SlB (oneX wx) (.slice (some ⟨wx.heap.size, 0, none⟩) 1 1) [120] :=
  .inr ⟨_, _, _, rfl, Nat.le_refl _, by decide, by rw [oneX, markS_size]; simp, fun j hj => by
    obtain rfl : j = 0 := by simpa using hj
    rw [oneX, markS_cell]
    exact cell_of_row _ _ _ _ _ _ (heap_alloc_new wx _)⟩
theorem CP.put_x {w : World} {p g : Nat} {d d' : Dk.D} {wr : World} (h : CP w p g d wr) (hd : Dk.putAt d 0 [120] = (d', 0)) :
    Calls Try.prog 16 #[.pointer (some ⟨p, 0, none⟩), .int .i64 0, .slice (some ⟨wr.heap.size, 0, none⟩) 1 1] (markS (wr.alloc (.cells #[.int .u8 120] 5)) wr.heap.size) fun e w' => e = .returned (.int .i64 0) ∧ CP w p g d' w' :=
  CP.put (wr := oneX wr) (h.below (Below.markS ((Below.refl _ wr).alloc (Nat.le_refl _) _) _ (Nat.le_refl _))) 0 _ [120] (one_x wr) (by decide) (by omega) (by omega) hd

set_option maxRecDepth 100000 in
set_option maxHeartbeats 4000000 in
theorem law_epochCounts (x : Int) (hx0 : 0 ≤ x) (hx1 : x ≤ 65535) (s : BitVec 8) (w : World) :
    Calls Try.prog 11 #[.int .u16 x, .int .u8 (bv s)] w fun e w' => e = .returned (.bool true) ∧ Below w.heap.size w w' := by
  have hn := dk_new 5 (by omega) (by omega) w
  rw [show ((5 : Nat) : Int) = 5 from rfl] at hn
  have HN := Lib.hid hn
  have HWK := Lib.hid works10_any
  have kc := fun (w : World) (b o n c : Nat) => run_convert_same (P := Try.prog) w 22 5 b o n c Try.underlying22 Try.underlying5
  clear hn
  obtain ⟨tq, htq, htq0, htq1⟩ : ∃ t : Nat, bv s % 201 = t ∧ 0 ≤ t ∧ t ≤ 200 := ⟨(bv s % 201).toNat, by have := bv_nonneg s; omega, by omega, by have := bv_nonneg s; omega⟩
  have HTQ := Lib.hid htq
  have hs0 := bv_nonneg s
  have hs1 := bv_lt s
  clear htq
  generalize bv s = sv at *
  go_enter Try.func11, Try.ntmps11
  go_upto_region 2 with (go_at_call 14; refine HN.out.mono ?_; rintro e w1 ⟨p, g, rfl, hD1, hp1, hg1, hb1⟩; have HP1 := Lib.hid (show CP w p g _ w1 from ⟨hD1, hb1, hp1, hg1⟩); clear hD1 hb1)
  clear HN
  obtain ⟨m, hm, hm1⟩ : ∃ m : Nat, x % 386 = m ∧ m ≤ 385 := ⟨(x % 386).toNat, by omega, by omega⟩
  go_cut [7] (fun s wx => s = .int .i64 m ∧ wx = w1)
  case first =>
    go_wp2_with fail
    go_meet
    case rel => exact ⟨by go_num, rfl⟩
  case rest =>
    obtain ⟨rfl, rfl⟩ := hcut
    clear hm hx0 hx1
    go_upto_region 3 with fail
    go_cut [7] (fun s wx => (∃ n : Nat, n ≤ 384 ∧ s = .int .i64 n) ∧ wx = wc)
    case first =>
      by_cases h : m ≤ 384
      · go_wp2_with fail
        go_meet
        case rel => exact ⟨⟨m, h, by go_num⟩, rfl⟩
      · obtain rfl : m = 385 := by omega
        go_wp2_with fail
        go_meet
        case rel => exact ⟨⟨384, by omega, by go_num⟩, rfl⟩
    case rest =>
      obtain ⟨⟨n, hn, rfl⟩, rfl⟩ := hcut
      clear hm1
      obtain ⟨d1, d2, hd1, hd2, hF⟩ := five_put n hn
      have HD1 := Lib.hid hd1
      have HD2 := Lib.hid hd2
      have HF := Lib.hid hF
      clear hd1 hd2 hF
      go_upto_region 4 with fail
      go_cut [37] (fun s wx => s = .bool false ∧ Hid (CP w p g d2 wx))
      case first =>
        go_wp2_with (first
          | (go_at_call 46; refine (rfront_any n 384 _ (by omega) (by omega)).mono ?_; rintro e w2 ⟨v2, rfl, ho, hb⟩; have HS2 := Lib.hid ho.sl; have HP2 := Lib.hid (HP1.out.below hb); clear ho hb)
          | (go_at_call 16; with_reducible refine Calls.mono (HP2.out.put 128 v2 _ HS2.out (by rw [frontL_length]; omega) (by omega) (by omega) HD1.out) ?_; rintro e w3 ⟨rfl, hp⟩; have HP3 := Lib.hid hp; clear hp)
          | (go_at_call 16; with_reducible refine Calls.mono (HP3.out.put_x HD2.out) ?_; rintro e w4 ⟨rfl, hp⟩; have HP4 := Lib.hid hp; clear hp))
        go_meet
        case rel => exact ⟨rfl, HP4⟩
      case rest =>
        obtain ⟨rfl, HP4⟩ := hcut
        clear HP1 HD1 HD2 kc
        go_upto_region 7 with (go_at_call 41; refine (ep_open_at HP4.out.1 1 3 n HF.out.at_ HF.out.off (by omega)).mono ?_; rintro e w5 ⟨c, rfl, hc, hC, hb⟩; have HC5 := Lib.hid hC; have HP5 := Lib.hid (HP4.out.below hb); have hpw := HP4.out.1.ltp; have hgw := HP4.out.1.ltg; have hz4 := HP4.out.2.1.size; clear hC hb)
        have HN5 := Lib.hid (show CN w p g c n w5 from ⟨hn, ⟨d2, HP5.out.1, HF.out⟩, HC5.out, HP5.out.2.1, HP5.out.2.2.1, HP5.out.2.2.2, by omega, by omega, by omega⟩)
        clear HC5 HP5 HP4 HF hc hpw hgw hz4
        go_upto_region 9 with (go_at_call 43; refine HN5.out.value.mono ?_; rintro e w' ⟨rfl, rfl⟩)
        go_wp2
        go_loopw [7, 10] (fun s7 s10 wr => ∃ (i n : Nat), i ≤ tq ∧ s10 = .int .i64 i ∧ s7 = .int .i64 n ∧ n ≤ 384 ∧ Hid (CN w p g c n wr)) (fun _ s10 _ => tq - (intOf s10).toNat)
        case atStart => exact ⟨0, n, by omega, rfl, rfl, hn, HN5⟩
        case round =>
          clear HN5 hn
          obtain ⟨i, n, hi, rfl, rfl, hn, HN5⟩ := hrel
          go_upto_region 10 with fail
          go_cut [55] (fun s wx => s = .bool (decide (i < tq)) ∧ wx = wr)
          case first =>
            have htq := HTQ.out
            go_wp2_with fail
            go_meet
            case rel => exact ⟨by simp [htq], rfl⟩
          case rest =>
            by_cases h : i < tq
            · rw [decide_eq_true h] at hcut
              obtain ⟨rfl, rfl⟩ := hcut
              by_cases h3 : n < 384
              · have HX := Lib.hid (HN5.out.next h3)
                have h3' : ((n : Int) == 384) = false := by simp; omega
                go_upto_region 16 with (go_at_call 42; refine HX.out.mono ?_; rintro e w6 ⟨rfl, hN⟩; have HN6 := Lib.hid hN; have HV6 := Lib.hid hN.value; clear hN)
                go_wp2_with (go_at_call 43; refine HV6.out.mono ?_; rintro e w' ⟨rfl, rfl⟩)
                go_roundw
                case rel => exact ⟨i + 1, n + 1, by omega, by go_num, by go_num, by omega, HN6⟩
                case measure => simp [intOf]; omega
              · obtain rfl : n = 384 := by omega
                have HX := Lib.hid HN5.out.full
                go_wp2_with (go_at_call 42; refine HX.out.mono ?_; rintro e w6 ⟨rfl, hN⟩; have HN6 := Lib.hid hN; clear hN)
                go_roundw
                case rel => exact ⟨i + 1, 384, by omega, by go_num, rfl, by omega, HN6⟩
                case measure => simp [intOf]; omega
            · rw [decide_eq_false h] at hcut
              obtain ⟨rfl, rfl⟩ := hcut
              clear h
              have hcn := HN5.out
              obtain ⟨_, ⟨d, hD, hF⟩, _, hbel, _⟩ := hcn
              have HF := Lib.hid hF
              have HBEL := Lib.hid hbel
              have HBY := Lib.hid (dk_bytes hD)
              clear hD hF hbel HN5
              go_upto_region 20 with (go_at_call 17; refine HBY.out.mono ?_; rintro e w6 ⟨v6, rfl, ho, hb⟩; have HO6 := Lib.hid ho; have HB6 := Lib.hid hb; clear ho hb)
              obtain ⟨g5, c5, rfl, _, hgl, hcap, hs5⟩ := HO6.out.form 640 HF.out.len (by omega)
              have hc5 := hs5.bounds.2.2
              have hM : ∀ W : World, Below w6.heap.size w6 W → SlB W (.slice (some ⟨g5, 128, none⟩) 384 (c5 - 128)) (frontL n 384) := fun W hb => by
                have h := ((hs5.below hb (Nat.le_refl _)).drop 128 (by omega)).take 384 (by omega)
                rw [HF.out.mid, Nat.zero_add] at h
                exact h
              have h0 : ∀ W : World, Below w6.heap.size w6 W → W.cell? ⟨g5, 0, none⟩ = some (.int .u8 120) := fun W hb => by
                have h := (hs5.below hb (Nat.le_refl _)).cell 0 (by rw [HF.out.len]; omega)
                rw [HF.out.first] at h
                exact h
              have h5 : ∀ W : World, Below w6.heap.size w6 W → W.cell? ⟨g5, 512, none⟩ = some (.int .u8 0) := fun W hb => by
                have h := (hs5.below hb (Nat.le_refl _)).cell 512 (by rw [HF.out.len]; omega)
                rw [HF.out.last] at h
                exact h
              have HM := Lib.hid hM
              have H0 := Lib.hid h0
              have H5 := Lib.hid h5
              have b0 : Below w6.heap.size w6 w6.drew := (Below.refl _ _).drew
              have B0 := Lib.hid b0
              have sA := hM _ b0
              have a0 := h0 _ b0
              have a5 := h5 _ b0
              clear hM h0 h5 b0 HBY hs5
              have kc : ∀ (W : World) (b off cap : Nat), SlB W (.slice (some ⟨b, off, none⟩) 384 cap) (frontL n 384) → (convert 22 9 (.slice (some ⟨b, off, none⟩) 384 cap)).run Try.prog W = .ok (.string (strB (frontL n 384))) W := fun W b off cap h => conv_str h
              have HFR := Lib.hid (rfront_any n 384 w6.drew (by omega) (by omega))
              have HFL := Lib.hid (frontL_length n 384)
              go_cut [4] (fun s wx => s = .bool true ∧ Hid (Below w6.heap.size w6 wx))
              case first =>
                go_region_with (first
                  | (go_at_call 46; refine HFR.out.mono ?_; rintro e w7 ⟨v7, rfl, ho, hb⟩; obtain ⟨b2, off2, cap2, rfl, _, _⟩ := ho.sl.open_ 384 HFL.out (by omega); have B7 := Lib.hid (B0.out.trans hb); have sB := HM.out _ B7.out; have sC := ho.sl; have a07 := H0.out _ B7.out; have a57 := H5.out _ B7.out; clear ho hb)
                  | (go_at_call 44; refine (HWK.out _).mono ?_; rintro e w8 ⟨rfl, hbw⟩; have B8 := Lib.hid (B7.out.trans (hbw.mono B7.out.size)); have sB8 := HM.out _ B8.out; have sC8 := sC.below hbw (Nat.le_refl _); have a08 := H0.out _ B8.out; have a58 := H5.out _ B8.out; clear hbw))
                all_goals (go_wp2_with fail; go_meet)
                all_goals exact ⟨rfl, B8⟩
              case rest =>
                obtain ⟨rfl, B9⟩ := hcut
                go_wp2
                go_ret
                exact ⟨rfl, HBEL.out.trans ((HB6.out.trans (B9.out.mono HB6.out.size)).mono HBEL.out.size)⟩
end Go.Proofs.Ytdnjjemdnlegdaa
