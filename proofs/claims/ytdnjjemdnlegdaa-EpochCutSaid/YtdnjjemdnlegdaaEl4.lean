/-
  The law EpochCut: its walk.
-/
import Derived.Test.YtdnjjemdnlegdaaEl3
namespace Go.Proofs.Ytdnjjemdnlegdaa
set_option linter.unusedVariables false
set_option linter.unusedSimpArgs false
open Go Go.RowKit

/-- A slice of masks. -/
def Masks (w : World) (a : Option Addr) (len : Nat) : Prop := 0 < len → ∃ b off, a = some ⟨b, off, none⟩ ∧ b < w.heap.size ∧ ∀ i, i < len → ∃ m : List (BitVec 8), m.length = 16 ∧ w.rangeAt b (off + i * 16) (bcells m)

set_option maxRecDepth 100000 in
set_option maxHeartbeats 4000000 in
theorem law_epochCut (v0 : Value) (xs : List (BitVec 8)) (a1 : Option Addr) (n1 cap1 : Nat) (w : World) (hs : SlB w v0 xs) (hc1 : n1 ≤ cap1) (hm1 : cap1 ≤ maxLen) (hm : Masks w a1 n1) :
    Calls Try.prog 13 #[v0, .slice a1 n1 cap1] w fun e w' => e = .returned (.bool true) ∧ Below w.heap.size w w' := by
  have HN := Lib.hid (dk_new 3 (by omega) (by omega) w)
  have HWK := Lib.hid works10_any
  have HA0 := Lib.hid (Ep.at_fresh 3 0 3 (by omega))
  obtain ⟨a0, cap0, rfl⟩ := hs.len
  have hb := hs.bounds.2
  have HS := Lib.hid hs
  have HM := Lib.hid hm
  have hI := fun (l : Nat) (h : l = 16) => (show (Try.prog.info? 23).map (·.size) = some l by rw [h]; kernel_rfl)
  have HI := Lib.hid hI
  clear hs hm hI
  go_enter Try.func13, Try.ntmps13
  go_upto_region 4 with (go_at_call 14; refine HN.out.mono ?_; rintro e w1 ⟨p, g, rfl, hD1, hp1, hg1, hb1⟩; have HS1 := Lib.hid (show CutS w p g 0 w1 from ⟨_, hD1, rfl, rfl, HA0.out, hb1, hp1, hg1⟩); clear hD1 hb1)
  clear HN HA0
  go_wp2
  go_loopw [7, 8] (fun s7 s8 wr => ∃ (i was v : Nat), i ≤ 30 ∧ s8 = .int .i64 i ∧ s7 = .int .i64 was ∧ (v = was ∨ v = was + 1) ∧ v ≤ 4 * i ∧ Hid (CutS w p g v wr)) (fun _ s8 _ => 30 - (intOf s8).toNat)
  case atStart => exact ⟨0, 0, 0, by omega, rfl, rfl, .inl rfl, by omega, HS1⟩
  case round =>
    clear HS1
    obtain ⟨i, was, v, hi30, rfl, rfl, hv, hv4, HS1⟩ := hrel
    go_upto_region 6 with fail
    go_cut [35] (fun s wx => s = .bool (decide (i < xs.length ∧ i < n1 ∧ i < 30)) ∧ wx = wr)
    case first =>
      by_cases h1 : i < xs.length
      · by_cases h2 : i < n1
        · by_cases h3 : i < 30
          all_goals
            go_wp2_with fail
            go_meet
            case rel => exact ⟨by simp [h1, h2, h3] <;> omega, rfl⟩
        · go_wp2_with fail
          go_meet
          case rel => exact ⟨by simp [h1, h2] <;> omega, rfl⟩
      · go_wp2_with fail
        go_meet
        case rel => exact ⟨by simp [h1] <;> omega, rfl⟩
    case rest =>
      by_cases hc : i < xs.length ∧ i < n1 ∧ i < 30
      · rw [decide_eq_true hc] at hcut
        obtain ⟨rfl, rfl⟩ := hcut
        obtain ⟨h1, h2, h3⟩ := hc
        go_upto_region 9 with (go_at_call 41; refine (cutS_open HS1.out).mono ?_; rintro e w2 ⟨c, rfl, hS2, hC2, hcl, hcp, hcg⟩; have HS2 := Lib.hid hS2; have HC2 := Lib.hid hC2; clear hS2 hC2)
        have HV2 := Lib.hid (ep_value HC2.out)
        clear HS1
        go_cut [57] (fun s wx => s = .bool false ∧ wx = w2)
        case first =>
          rcases hv with rfl | rfl
          · go_wp2_with (go_at_call 43; refine HV2.out.mono ?_; rintro e w' ⟨rfl, rfl⟩)
            go_meet
            case rel => exact ⟨rfl, rfl⟩
          · go_wp2_with (go_at_call 43; refine HV2.out.mono ?_; rintro e w' ⟨rfl, rfl⟩)
            go_meet
            case rel => exact ⟨rfl, rfl⟩
        case rest =>
          obtain ⟨rfl, rfl⟩ := hcut
          clear hv
          obtain ⟨b0, off0, c0', hv0, _, _⟩ := HS.out.open_ xs.length rfl (by omega)
          simp only [Value.slice.injEq] at hv0
          obtain ⟨rfl, _, rfl⟩ := hv0
          have hbel : Below w.heap.size w wc := by obtain ⟨_, _, _, _, _, hb, _⟩ := HS2.out; exact hb
          have cW := (HS.out.below hbel (Nat.le_refl _)).cell i h1
          unfold byteV at cW
          obtain ⟨b1, off1, rfl, hb1l, hmk⟩ := HM.out (by omega)
          obtain ⟨mask, hml, hra⟩ := hmk i h2
          have hra2 : wc.rangeAt b1 (off1 + i * 16) (bcells mask) := fun j u hj => (hbel.cell (p := ⟨b1, off1 + i * 16 + j, none⟩) hb1l).trans (hra j u hj)
          have HRA := Lib.hid hra2
          have HIM := Lib.hid (HI.out (bcells mask).length (by rw [bcells_length, hml]))
          have HBM := Lib.hid (show (bcells mask).toArray = bytes mask by rw [← bytes_toList])
          have x0 := bv_nonneg (xs.getD i 0)
          have x1 := bv_lt (xs.getD i 0)
          generalize bv (xs.getD i 0) = x at *
          obtain ⟨n, hn, hn3⟩ : ∃ n : Nat, x % 4 = n ∧ n ≤ 3 := ⟨(x % 4).toNat, by omega, by omega⟩
          have HCUT := Lib.hid (cutS_cut HS2.out HC2.out hcl hcp hcg n hn3 mask hml)
          clear hra hra2 hmk hbel HC2 HS2
          go_upto_region 13 with (go_at_call 43; refine HV2.out.mono ?_; rintro e w' ⟨rfl, rfl⟩)
          clear hn x0 x1 HV2
          go_upto_region 15 with (first
            | (refine wpList_load_mid rfl 23 (.tmp 70) rfl b1 (off1 + i * 16) rfl (bcells mask) _ HRA.out Try.underlying23 rfl HIM.out ?_; rw [HBM.out])
            | (go_at_call 18; refine HCUT.out.mono ?_; rintro e w3 ⟨rfl, hI3⟩; have HI3 := Lib.hid hI3; clear hI3))
          clear HCUT HRA HIM HBM
          go_wp2_with fail
          go_loopw [7, 12] (fun s7 s12 wr => ∃ (k u : Nat), k ≤ n + 1 ∧ s12 = .int .i64 k ∧ s7 = .int .i64 u ∧ Hid (u = v + min k n) ∧ u ≤ 200 ∧ Hid (CutI w p g c v n k wr)) (fun _ s12 _ => n + 1 - (intOf s12).toNat)
          case atStart => exact ⟨0, v, by omega, rfl, rfl, Lib.hid (by omega), by omega, HI3⟩
          case round =>
            clear HI3
            obtain ⟨k, u, hk, rfl, rfl, HU, hu, HIK⟩ := hrel
            by_cases hkn : k < n
            · have hN := cutI_next HIK.out hkn (by omega)
              have HN2 := Lib.hid hN
              have hue : u + 1 = v + min (k + 1) n := by have := HU.out; omega
              have HU2 := Lib.hid hue
              clear hN hue
              have hub : u + 1 ≤ 200 := by have := HU.out; omega
              go_upto_region 19 with (go_at_call 42; refine HN2.out.mono ?_; rintro e w4 ⟨rfl, hI4⟩; have HI4 := Lib.hid hI4; clear hI4)
              have HV4 := Lib.hid (cutI_value HI4.out (u + 1) HU2.out)
              go_wp2_with (go_at_call 43; refine HV4.out.mono ?_; rintro e w' ⟨rfl, rfl⟩)
              go_roundw
              case rel => exact ⟨k + 1, u + 1, by omega, by go_num, by go_num, HU2, hub, HI4⟩
              case measure => simp [intOf]; omega
            · by_cases hke : k = n
              · subst hke
                have HN2 := Lib.hid (cutI_torn HIK.out (by omega))
                have HU2 := Lib.hid (show u = v + min (k + 1) k by have := HU.out; omega)
                go_upto_region 19 with (go_at_call 42; refine HN2.out.mono ?_; rintro e w4 ⟨rfl, hI4⟩; have HI4 := Lib.hid hI4; clear hI4)
                have HV4 := Lib.hid (cutI_value HI4.out u HU2.out)
                go_wp2_with (go_at_call 43; refine HV4.out.mono ?_; rintro e w' ⟨rfl, rfl⟩)
                go_roundw
                case rel => exact ⟨k + 1, u, by omega, by go_num, rfl, HU2, hu, HI4⟩
                case measure => simp [intOf] <;> omega
              · obtain rfl : k = n + 1 := by omega
                have HN2 := Lib.hid (cutI_off HIK.out (by omega))
                have HU2 := Lib.hid (show u = v + n by have := HU.out; omega)
                go_wp2_with (first
                  | (go_at_call 42; refine HN2.out.mono ?_; rintro e w4 ⟨rfl, hI4⟩; have HR4 := Lib.hid (cutI_restart hI4); clear hI4)
                  | (go_at_call 25; refine HR4.out.mono ?_; rintro e w5 ⟨rfl, hS5⟩; have HS5 := Lib.hid hS5; clear hS5))
                have hun := HU2.out
                rcases HS5.out with hS | hS
                · go_roundw
                  case rel => exact ⟨i + 1, u, v + n, by omega, by go_num, rfl, .inl (by omega), by omega, Lib.hid hS⟩
                  case measure => simp [intOf] <;> omega
                · go_roundw
                  case rel => exact ⟨i + 1, u, v + n + 1, by omega, by go_num, rfl, .inr (by omega), by omega, Lib.hid hS⟩
                  case measure => simp [intOf] <;> omega
      · rw [decide_eq_false hc] at hcut
        obtain ⟨rfl, rfl⟩ := hcut
        clear hc
        go_upto_region 26 with (go_at_call 41; refine (cutS_open HS1.out).mono ?_; rintro e w2 ⟨c, rfl, hS2, hC2, hcl, hcp, hcg⟩; have HS2 := Lib.hid hS2; have HC2 := Lib.hid hC2; clear hS2 hC2)
        have HV2 := Lib.hid (ep_value HC2.out)
        have hbel : Below w.heap.size w w2 := by obtain ⟨_, _, _, _, _, hb, _⟩ := HS2.out; exact hb
        have HBEL := Lib.hid hbel
        have hz2 := hbel.size
        clear hbel
        rcases hv with rfl | rfl
        all_goals
          go_wp2_with (first
            | (go_at_call 43; refine HV2.out.mono ?_; rintro e w' ⟨rfl, rfl⟩)
            | (go_at_call 44; refine (HWK.out _).mono ?_; rintro e w' ⟨rfl, hbw⟩))
          go_ret
          exact ⟨rfl, HBEL.out.trans (hbw.mono hz2)⟩
end Go.Proofs.Ytdnjjemdnlegdaa
