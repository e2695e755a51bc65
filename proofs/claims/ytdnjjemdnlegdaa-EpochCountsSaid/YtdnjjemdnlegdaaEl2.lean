/-
  The law EpochOpens: its walk.
-/
import Derived.Test.YtdnjjemdnlegdaaEr1
namespace Go.Proofs.Ytdnjjemdnlegdaa
set_option linter.unusedVariables false
set_option linter.unusedSimpArgs false
open Go Go.RowKit

theorem put8 (A : List (BitVec 8)) (h : A.length ≤ 1024) : ∃ d1, Dk.putAt (Dk.fresh 8) 0 A = (d1, 0) := by
  have hl : (Dk.fresh 8).b.length = 1024 := by unfold Dk.fresh; rw [List.length_replicate]
  refine ⟨{ Dk.fresh 8 with b := splice (Dk.fresh 8).b 0 A }, ?_⟩
  unfold Dk.putAt
  rw [if_neg (by rw [hl]; omega)]
  rfl

theorem SlB.minB {w : World} {a : Option Addr} {len cap : Nat} {xs : List (BitVec 8)} (h : SlB w (.slice a len cap) xs) (m : Nat) (hl : len = xs.length) : (xs.length ≤ m → SlB w (.slice a xs.length cap) (xs.take m)) ∧ (m < xs.length → SlB w (.slice a m cap) (xs.take m)) := by
  subst hl
  exact ⟨fun hm => by rw [List.take_of_length_le hm]; exact h, fun hm => h.takeA m (by omega)⟩
section
variable {w : World} {p g : Nat} {d : Dk.D} {fr sectors : Int}
theorem ep_open_err (h : DiskAt w p g d) (ha : fr ≤ 9223372036854775807) (hn : sectors ≤ 9223372036854775807) (hn0 : -9223372036854775808 ≤ sectors) (h1 : (Dk.read d fr sectors).2 ≠ 0) :
    Calls Try.prog 41 #[.pointer (some ⟨p, 0, none⟩), .int .i64 fr, .int .i64 sectors] w fun e w' => e = .returned (.tuple #[.pointer none, .int .i64 (Dk.read d fr sectors).2]) ∧ Below w.heap.size w w' :=
  (ep_open h fr sectors ha hn hn0).mono fun e w' ⟨hb, hc⟩ => by
    rcases hc with hc | hc | hc | hc
    · exact ⟨hc.2, hb⟩
    · exact absurd hc.1 h1
    · exact absurd hc.1 h1
    · exact absurd hc.1 h1
theorem ep_open_arg (h : DiskAt w p g d) (ha : fr ≤ 9223372036854775807) (hn : sectors ≤ 9223372036854775807) (hn0 : -9223372036854775808 ≤ sectors) (h1 : (Dk.read d fr sectors).2 = 0) (h2 : sectors < 1) :
    Calls Try.prog 41 #[.pointer (some ⟨p, 0, none⟩), .int .i64 fr, .int .i64 sectors] w fun e w' => e = .returned (.tuple #[.pointer none, .int .i64 2]) ∧ Below w.heap.size w w' :=
  (ep_open h fr sectors ha hn hn0).mono fun e w' ⟨hb, hc⟩ => by
    rcases hc with hc | hc | hc | hc
    · exact absurd h1 hc.1
    · exact ⟨hc.2.2, hb⟩
    · exact absurd hc.2.1 (by omega)
    · exact absurd hc.2.1 (by omega)
theorem ep_open_bad (h : DiskAt w p g d) (ha : fr ≤ 9223372036854775807) (hn : sectors ≤ 9223372036854775807) (hn0 : -9223372036854775808 ≤ sectors) (h1 : (Dk.read d fr sectors).2 = 0) (h2 : 1 ≤ sectors) (h3 : ∀ n, ¬ Ep.Tells (Dk.read d fr sectors).1 n) :
    Calls Try.prog 41 #[.pointer (some ⟨p, 0, none⟩), .int .i64 fr, .int .i64 sectors] w fun e w' => e = .returned (.tuple #[.pointer none, .int .i64 9]) ∧ Below w.heap.size w w' :=
  (ep_open h fr sectors ha hn hn0).mono fun e w' ⟨hb, hc⟩ => by
    rcases hc with hc | hc | hc | hc
    · exact absurd h1 hc.1
    · exact absurd hc.2.1 (by omega)
    · exact ⟨hc.2.2.2, hb⟩
    · obtain ⟨_, _, n, c, ht, _⟩ := hc
      exact absurd ht (h3 n)
theorem ep_open_ok (h : DiskAt w p g d) (ha : fr ≤ 9223372036854775807) (hn : sectors ≤ 9223372036854775807) (hn0 : -9223372036854775808 ≤ sectors) (h1 : (Dk.read d fr sectors).2 = 0) (h2 : 1 ≤ sectors) (n : Nat) (h3 : Ep.Tells (Dk.read d fr sectors).1 n) :
    Calls Try.prog 41 #[.pointer (some ⟨p, 0, none⟩), .int .i64 fr, .int .i64 sectors] w fun e w' => ∃ c, e = .returned (.tuple #[.pointer (some ⟨c, 0, none⟩), .int .i64 0]) ∧ w.heap.size ≤ c ∧ CtrAt w' c p fr ((Dk.read d fr sectors).1.length : Int) n ∧ Below w.heap.size w w' :=
  (ep_open h fr sectors ha hn hn0).mono fun e w' ⟨hb, hc⟩ => by
    rcases hc with hc | hc | hc | hc
    · exact absurd h1 hc.1
    · exact absurd hc.2.1 (by omega)
    · exact absurd h3 (hc.2.2.1 n)
    · obtain ⟨_, _, m, c, ht, he, hc, hC⟩ := hc
      obtain rfl := ht.uniq h3
      exact ⟨c, he, hc, hC, hb⟩
end

set_option maxRecDepth 100000 in
set_option maxHeartbeats 2000000 in
theorem law_epochOpens (v : Value) (xs : List (BitVec 8)) (fr sectors : Int) (w : World) (hs : SlB w v xs) (ha0 : -9223372036854775808 ≤ fr) (ha : fr ≤ 9223372036854775807) (hn0 : -9223372036854775808 ≤ sectors) (hn : sectors ≤ 9223372036854775807) :
    Calls Try.prog 10 #[v, .int .i64 fr, .int .i64 sectors] w fun e w' => e = .returned (.bool true) ∧ Below w.heap.size w w' := by
  have HN := Lib.hid (dk_new 8 (by omega) (by omega) w)
  have HWK := Lib.hid works10_any
  obtain ⟨d1, hput⟩ := put8 (xs.take 1024) (by rw [List.length_take]; omega)
  obtain ⟨a, cap, rfl⟩ := hs.len
  have hcap := hs.bounds.2
  have HPUT := fun (W : World) (p g : Nat) (u : Value) (h : DiskAt W p g (Dk.fresh 8)) (hs : SlB W u (xs.take 1024)) => dk_put h 0 u (xs.take 1024) hs (by rw [List.length_take]; omega) (by omega) (by omega)
  rw [hput] at HPUT
  have HPUT := Lib.hid HPUT
  have HS := Lib.hid hs
  have HLT := Lib.hid (show (∀ j, j < xs.length → True) from fun _ _ => trivial)
  clear hput hs
  go_enter Try.func10, Try.ntmps10
  go_upto_region 2 with (go_at_call 14; refine HN.out.mono ?_; rintro e w1 ⟨p, g, rfl, hD1, hp1, hg1, hb1⟩; have HD1 := Lib.hid hD1; have HB1 := Lib.hid hb1; clear hD1 hb1)
  have hz1 := HB1.out.size
  go_cut [30] (fun s wx => s = .bool false ∧ Hid (DiskAt wx p g d1) ∧ Hid (Below w.heap.size w wx))
  case first =>
    have HM := Lib.hid (SlB.minB (HS.out.below HB1.out (Nat.le_refl _)) 1024 rfl)
    clear HS
    generalize hx1 : xs.length = n1 at *
    have HX1 := Lib.hid hx1
    clear hx1
    by_cases hl : n1 ≤ 1024
    all_goals
      first | have hd := HM.out.1 hl | have hd := HM.out.2 (by omega)
      have HDD := Lib.hid hd
      clear hd
      go_wp2_with (go_at_call 16; refine (HPUT.out _ p g _ HD1.out HDD.out).mono ?_; rintro e w2 ⟨rfl, hD, hK⟩; have HD2 := Lib.hid hD; have HB2 := Lib.hid (HB1.out.trans (hK.toBelow (by intro k hk; simp at hk; omega) hz1)); clear hD hK)
      go_meet
      case rel => exact ⟨rfl, HD2, HB2⟩
  case rest =>
    obtain ⟨rfl, HD2, HB2⟩ := hcut
    clear HS HD1 HB1 HPUT HN
    have hz2 := HB2.out.size
    have HR := Lib.hid (dk_read HD2.out fr sectors ha hn hn0)
    have HRL := Lib.hid (read_length d1 HD2.out.ok fr sectors)
    go_upto_region 5 with (go_at_call 26; refine HR.out.mono ?_; rintro e w3 ⟨v3, rfl, ho, hb⟩; have HO3 := Lib.hid ho; have HB3 := Lib.hid hb; have hz3 := hb.size; have HD3 := Lib.hid (HD2.out.below hb (Nat.le_refl _)); clear ho hb)
    clear HR
    by_cases h1 : (Dk.read d1 fr sectors).2 = 0
    · by_cases h2 : sectors < 1
      · have HOP := Lib.hid (ep_open_arg HD3.out ha hn hn0 h1 h2)
        rw [h1]
        clear h1 HRL HO3 HD3
        go_wp2_with (first
          | (go_at_call 41; refine HOP.out.mono ?_; rintro e w4 ⟨rfl, hb⟩; have HB4 := Lib.hid hb; have hz4 := hb.size; clear hb)
          | (go_at_call 44; refine (HWK.out _).mono ?_; rintro e w5 ⟨rfl, hbw⟩))
        go_ret
        exact ⟨rfl, HB2.out.trans ((HB3.out.trans ((HB4.out.trans (hbw.mono hz4)).mono hz3)).mono hz2)⟩
      · have hl := HRL.out h1
        have HLB := Lib.hid (show (Dk.read d1 fr sectors).1.length ≤ 1000000000 by omega)
        have HSL := Lib.hid HO3.out.sl
        have h2' : 1 ≤ sectors := by omega
        rw [h1]
        by_cases h3 : ∃ n, Ep.Tells (Dk.read d1 fr sectors).1 n
        · obtain ⟨n, h3⟩ := h3
          have HOP := Lib.hid (ep_open_ok HD3.out ha hn hn0 h1 h2' n h3)
          have HTR := Lib.hid (show TellsR (Dk.read d1 fr sectors).1 (n : Int) 0 from .inl ⟨n, h3, rfl, rfl⟩)
          clear h1 h3 HRL HO3 HD3 hl
          generalize Dk.read d1 fr sectors = rd at *
          go_wp2_with (first
            | (go_at_call 41; refine HOP.out.mono ?_; rintro e w4 ⟨c, rfl, hc, hC, hb⟩; have HB4 := Lib.hid hb; have hz4 := hb.size; have HV := Lib.hid (ep_value hC); have HSL4 := Lib.hid (HSL.out.below hb (Nat.le_refl _)); clear hb hC hc)
            | (go_at_call 45; refine (rtells_any _ rd.1 _ HSL4.out HLB.out (n : Int) 0 HTR.out).mono ?_; rintro e w' ⟨rfl, rfl⟩)
            | (go_at_call 43; refine HV.out.mono ?_; rintro e w' ⟨rfl, rfl⟩)
            | (go_at_call 44; refine (HWK.out _).mono ?_; rintro e w5 ⟨rfl, hbw⟩))
          go_ret
          exact ⟨rfl, HB2.out.trans ((HB3.out.trans ((HB4.out.trans (hbw.mono hz4)).mono hz3)).mono hz2)⟩
        · have h3' : ∀ n, ¬ Ep.Tells (Dk.read d1 fr sectors).1 n := fun n hn => h3 ⟨n, hn⟩
          have HOP := Lib.hid (ep_open_bad HD3.out ha hn hn0 h1 h2' h3')
          have HTR := Lib.hid (show TellsR (Dk.read d1 fr sectors).1 0 9 from .inr ⟨h3', rfl, rfl⟩)
          have HV := Lib.hid ep_value_nil
          clear h1 h3 h3' HRL HO3 HD3 hl
          generalize Dk.read d1 fr sectors = rd at *
          go_wp2_with (first
            | (go_at_call 41; refine HOP.out.mono ?_; rintro e w4 ⟨rfl, hb⟩; have HB4 := Lib.hid hb; have hz4 := hb.size; have HSL4 := Lib.hid (HSL.out.below hb (Nat.le_refl _)); clear hb)
            | (go_at_call 45; refine (rtells_any _ rd.1 _ HSL4.out HLB.out 0 9 HTR.out).mono ?_; rintro e w' ⟨rfl, rfl⟩)
            | (go_at_call 43; refine (HV.out _).mono ?_; rintro e w' ⟨rfl, rfl⟩)
            | (go_at_call 44; refine (HWK.out _).mono ?_; rintro e w5 ⟨rfl, hbw⟩))
          go_ret
          exact ⟨rfl, HB2.out.trans ((HB3.out.trans ((HB4.out.trans (hbw.mono hz4)).mono hz3)).mono hz2)⟩
    · have HOP := Lib.hid (ep_open_err HD3.out ha hn hn0 h1)
      have h1' : ((Dk.read d1 fr sectors).2 != 0) = true := by simpa using h1
      clear h1 HRL HO3 HD3
      generalize Dk.read d1 fr sectors = rd at *
      go_wp2_with (first
        | (go_at_call 41; refine HOP.out.mono ?_; rintro e w4 ⟨rfl, hb⟩; have HB4 := Lib.hid hb; have hz4 := hb.size; clear hb)
        | (go_at_call 44; refine (HWK.out _).mono ?_; rintro e w5 ⟨rfl, hbw⟩))
      go_ret
      exact ⟨rfl, HB2.out.trans ((HB3.out.trans ((HB4.out.trans (hbw.mono hz4)).mono hz3)).mono hz2)⟩
end Go.Proofs.Ytdnjjemdnlegdaa
