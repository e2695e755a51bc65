/-
  The law EpochKnown: its walk.
-/
import Derived.Test.YtdnjjemdnlegdaaEl2
namespace Go.Proofs.Ytdnjjemdnlegdaa
set_option linter.unusedVariables false
set_option linter.unusedSimpArgs false
open Go Go.RowKit

theorem dk_is_nil (w : World) : Calls Try.prog 47 #[.pointer none] w fun e w' => e = .returned (.bool false) ∧ w = w' := by
  go_enter Try.func47, Try.ntmps47
  go_wp2
  go_ret
  exact ⟨rfl, rfl⟩
theorem dk_read_nil (a n : Int) (w : World) : Calls Try.prog 26 #[.pointer none, .int .i64 a, .int .i64 n] w fun e w' => e = .returned (.tuple #[.slice none 0 0, .int .i64 1]) ∧ w = w' := by
  go_enter Try.func26, Try.ntmps26
  go_wp2_with (go_at_call 47; refine (dk_is_nil _).mono ?_; rintro e w' ⟨rfl, rfl⟩)
  go_ret2
  exact ⟨rfl, rfl⟩
theorem ep_open_nil (a n : Int) (w : World) : Calls Try.prog 41 #[.pointer none, .int .i64 a, .int .i64 n] w fun e w' => e = .returned (.tuple #[.pointer none, .int .i64 1]) ∧ w = w' := by
  go_enter Try.func41, Try.ntmps41
  go_wp2_with (go_at_call 26; refine (dk_read_nil _ _ _).mono ?_; rintro e w' ⟨rfl, rfl⟩)
  go_ret2
  exact ⟨rfl, rfl⟩
theorem ep_next_nil (w : World) : Calls Try.prog 42 #[.pointer none] w fun e w' => e = .returned (.int .i64 1) ∧ w = w' := by
  go_enter Try.func42, Try.ntmps42
  go_wp2_with (go_at_call 63; refine (ep_is_nil _).mono ?_; rintro e w' ⟨rfl, rfl⟩)
  go_ret
  exact ⟨rfl, rfl⟩
theorem ep_is_zero (w : World) (c : Nat) (h : w.cell? ⟨c, 0, none⟩ = some (.pointer none)) : Calls Try.prog 63 #[.pointer (some ⟨c, 0, none⟩)] w fun e w' => e = .returned (.bool false) ∧ w = w' := by
  go_enter Try.func63, Try.ntmps63
  go_wp2
  go_ret
  exact ⟨rfl, rfl⟩
theorem ep_next_zero (w : World) (c : Nat) (h : w.cell? ⟨c, 0, none⟩ = some (.pointer none)) : Calls Try.prog 42 #[.pointer (some ⟨c, 0, none⟩)] w fun e w' => e = .returned (.int .i64 1) ∧ w = w' := by
  have HI := Lib.hid (ep_is_zero w c h)
  clear h
  go_enter Try.func42, Try.ntmps42
  go_wp2_with (go_at_call 63; refine HI.out.mono ?_; rintro e w' ⟨rfl, rfl⟩)
  go_ret
  exact ⟨rfl, rfl⟩
theorem ep_value_zero (w : World) (c : Nat) (h : w.cell? ⟨c, 0, none⟩ = some (.pointer none)) : Calls Try.prog 43 #[.pointer (some ⟨c, 0, none⟩)] w fun e w' => e = .returned (.int .i64 0) ∧ w = w' := by
  have HI := Lib.hid (ep_is_zero w c h)
  clear h
  go_enter Try.func43, Try.ntmps43
  go_wp2_with (go_at_call 63; refine HI.out.mono ?_; rintro e w' ⟨rfl, rfl⟩)
  go_ret
  exact ⟨rfl, rfl⟩

def kD0 : Dk.D := Dk.fresh 1
def kD1 : Dk.D := (Dk.putAt kD0 0 [1, 1]).1
def kD2 : Dk.D := (Dk.putAt kD1 0 [0, 1]).1
def kD3 : Dk.D := (Dk.putAt kD2 0 [1, 2]).1
theorem kPuts : (Dk.putAt kD0 0 [1, 1]).2 = 0 ∧ (Dk.putAt kD1 0 [0, 1]).2 = 0 ∧ (Dk.putAt kD2 0 [1, 2]).2 = 0 := by decide +kernel
theorem kReads : (Dk.read kD0 0 1).2 = 0 ∧ (Dk.read kD1 0 1).2 = 0 ∧ (Dk.read kD2 0 1).2 = 0 ∧ (Dk.read kD3 0 1).2 = 0 ∧ (Dk.read kD3 0 0).2 = 0 ∧ (Dk.read kD3 1 1).2 = 2 := by decide +kernel
theorem zeros_getD (n j : Nat) : (List.replicate n (0 : BitVec 8)).getD j 0 = 0 := by
  rw [List.getD, List.getElem?_replicate]
  split <;> rfl
theorem tells_zeros (n : Nat) : Ep.Tells (List.replicate n (0 : BitVec 8)) 0 :=
  ⟨Nat.zero_le _, fun j hj => absurd hj (by omega), fun j _ _ => zeros_getD n j⟩
theorem two_getD (a b : BitVec 8) (n j : Nat) (hj : 2 ≤ j) : (a :: b :: List.replicate n (0 : BitVec 8)).getD j 0 = 0 := by
  obtain ⟨k, rfl⟩ : ∃ k, j = k + 2 := ⟨j - 2, by omega⟩
  exact zeros_getD n k
theorem tells_two (n : Nat) : Ep.Tells (1 :: 1 :: List.replicate n (0 : BitVec 8)) 2 := by
  refine ⟨by simp, fun j hj => ?_, fun j h1 _ => two_getD 1 1 n j h1⟩
  rcases (show j = 0 ∨ j = 1 by omega) with rfl | rfl <;> rfl
theorem not_tells_two (n k : Nat) : ¬ Ep.Tells (0 :: 1 :: List.replicate n (0 : BitVec 8)) k := by
  intro h
  by_cases hn : k = 0
  · subst hn
    exact absurd (h.2.2 1 (by omega) (by simp)) (by simp [List.getD])
  · exact absurd (h.2.1 0 (by omega)) (by simp [List.getD])
theorem not_tells_three (n k : Nat) : ¬ Ep.Tells (1 :: 2 :: List.replicate n (0 : BitVec 8)) k := by
  intro h
  by_cases hn : k ≤ 1
  · exact absurd (h.2.2 1 (by omega) (by simp)) (by simp [List.getD])
  · exact absurd (h.2.1 1 (by omega)) (by simp [List.getD])
theorem kBytes0 : (Dk.read kD0 0 1).1 = List.replicate 128 0 := by decide +kernel
theorem kBytes1 : (Dk.read kD1 0 1).1 = 1 :: 1 :: List.replicate 126 0 := by decide +kernel
theorem kBytes2 : (Dk.read kD2 0 1).1 = 0 :: 1 :: List.replicate 126 0 := by decide +kernel
theorem kBytes3 : (Dk.read kD3 0 1).1 = 1 :: 2 :: List.replicate 126 0 := by decide +kernel
theorem kTells0 : Ep.Tells (Dk.read kD0 0 1).1 0 := kBytes0 ▸ tells_zeros 128
theorem kTells1 : Ep.Tells (Dk.read kD1 0 1).1 2 := kBytes1 ▸ tells_two 126
theorem kTells2 : ∀ n, ¬ Ep.Tells (Dk.read kD2 0 1).1 n := fun n => kBytes2 ▸ not_tells_two 126 n
theorem kTells3 : ∀ n, ¬ Ep.Tells (Dk.read kD3 0 1).1 n := fun n => kBytes3 ▸ not_tells_three 126 n

/-- The state of the walk: the disk, and the counters met so far. -/
def KS (w : World) (p g : Nat) (d : Dk.D) (cs : List (Nat × Nat)) (wx : World) : Prop :=
  DiskAt wx p g d ∧ Below w.heap.size w wx ∧ w.heap.size ≤ p ∧ w.heap.size ≤ g ∧ ∀ c v, (c, v) ∈ cs → ∃ fr n, CtrAt wx c p fr n ((v : Nat) : Int) ∧ c ≠ p ∧ c ≠ g
theorem KS.below {w : World} {p g : Nat} {d : Dk.D} {cs : List (Nat × Nat)} {wx wy : World} (h : KS w p g d cs wx) (hb : Below wx.heap.size wx wy) : KS w p g d cs wy :=
  ⟨h.1.below hb (Nat.le_refl _), h.2.1.trans (hb.mono h.2.1.size), h.2.2.1, h.2.2.2.1, fun c v hc => by
    obtain ⟨fr, n, hC, h1, h2⟩ := h.2.2.2.2 c v hc
    exact ⟨fr, n, hC.below hb (Nat.le_refl _), h1, h2⟩⟩
theorem KS.alloc {w : World} {p g : Nat} {d : Dk.D} {cs : List (Nat × Nat)} {wx : World} (h : KS w p g d cs wx) (o : Obj) : KS w p g d cs (wx.alloc o) :=
  h.below ((Below.refl _ wx).alloc (Nat.le_refl _) o)
theorem KS.put {w : World} {p g : Nat} {d d' : Dk.D} {cs : List (Nat × Nat)} {wx : World} (h : KS w p g d cs wx) (v : Value) (xs : List (BitVec 8)) (hs : SlB wx v xs) (hl : xs.length ≤ 1000000000) (hd : (Dk.putAt d 0 xs).1 = d') :
    Calls Try.prog 16 #[.pointer (some ⟨p, 0, none⟩), .int .i64 0, v] wx fun e w' => e = .returned (.int .i64 (Dk.putAt d 0 xs).2) ∧ KS w p g d' cs w' :=
  (dk_put h.1 0 v xs hs hl (by omega) (by omega)).mono fun e w' ⟨he, hD, hK⟩ => ⟨he, hd ▸ hD, h.2.1.trans (hK.toBelow (by intro k hk; simp at hk; have := h.2.2.1; have := h.2.2.2.1; omega) h.2.1.size), h.2.2.1, h.2.2.2.1, fun c v hc => by
    obtain ⟨fr, n, hC, h1, h2⟩ := h.2.2.2.2 c v hc
    exact ⟨fr, n, hC.kept hK (by simp; omega), h1, h2⟩⟩
theorem KS.open_ok {w : World} {p g : Nat} {d : Dk.D} {cs : List (Nat × Nat)} {wx : World} (h : KS w p g d cs wx) (n : Nat) (h1 : (Dk.read d 0 1).2 = 0) (h3 : Ep.Tells (Dk.read d 0 1).1 n) :
    Calls Try.prog 41 #[.pointer (some ⟨p, 0, none⟩), .int .i64 0, .int .i64 1] wx fun e w' => ∃ c, e = .returned (.tuple #[.pointer (some ⟨c, 0, none⟩), .int .i64 0]) ∧ KS w p g d ((c, n) :: cs) w' :=
  (ep_open_ok h.1 (by omega) (by omega) (by omega) h1 (by omega) n h3).mono fun e w' ⟨c, he, hc, hC, hb⟩ => by
    have h' := h.below hb
    have := h.1.ltp
    have := h.1.ltg
    refine ⟨c, he, h'.1, h'.2.1, h'.2.2.1, h'.2.2.2.1, fun c' v hm => ?_⟩
    rcases List.mem_cons.1 hm with hm | hm
    · cases hm
      exact ⟨_, _, hC, by omega, by omega⟩
    · exact h'.2.2.2.2 c' v hm
theorem KS.open_bad {w : World} {p g : Nat} {d : Dk.D} {cs : List (Nat × Nat)} {wx : World} (h : KS w p g d cs wx) (h1 : (Dk.read d 0 1).2 = 0) (h3 : ∀ n, ¬ Ep.Tells (Dk.read d 0 1).1 n) :
    Calls Try.prog 41 #[.pointer (some ⟨p, 0, none⟩), .int .i64 0, .int .i64 1] wx fun e w' => e = .returned (.tuple #[.pointer none, .int .i64 9]) ∧ KS w p g d cs w' :=
  (ep_open_bad h.1 (by omega) (by omega) (by omega) h1 (by omega) h3).mono fun e w' ⟨he, hb⟩ => ⟨he, h.below hb⟩
theorem KS.open_arg {w : World} {p g : Nat} {d : Dk.D} {cs : List (Nat × Nat)} {wx : World} (h : KS w p g d cs wx) (h1 : (Dk.read d 0 0).2 = 0) :
    Calls Try.prog 41 #[.pointer (some ⟨p, 0, none⟩), .int .i64 0, .int .i64 0] wx fun e w' => e = .returned (.tuple #[.pointer none, .int .i64 2]) ∧ KS w p g d cs w' :=
  (ep_open_arg h.1 (by omega) (by omega) (by omega) h1 (by omega)).mono fun e w' ⟨he, hb⟩ => ⟨he, h.below hb⟩
theorem KS.open_err {w : World} {p g : Nat} {d : Dk.D} {cs : List (Nat × Nat)} {wx : World} (h : KS w p g d cs wx) (h1 : (Dk.read d 1 1).2 = 2) :
    Calls Try.prog 41 #[.pointer (some ⟨p, 0, none⟩), .int .i64 1, .int .i64 1] wx fun e w' => e = .returned (.tuple #[.pointer none, .int .i64 2]) ∧ KS w p g d cs w' :=
  (ep_open_err h.1 (by omega) (by omega) (by omega) (by rw [h1]; omega)).mono fun e w' ⟨he, hb⟩ => ⟨by rw [he, h1], h.below hb⟩
theorem KS.value {w : World} {p g : Nat} {d : Dk.D} {cs : List (Nat × Nat)} {wx : World} (h : KS w p g d cs wx) (c v : Nat) (x : Int) (hx : ((v : Nat) : Int) = x) (hc : (c, v) ∈ cs) :
    Calls Try.prog 43 #[.pointer (some ⟨c, 0, none⟩)] wx fun e w' => e = .returned (.int .i64 x) ∧ wx = w' := by
  subst hx
  obtain ⟨fr, n, hC, _, _⟩ := h.2.2.2.2 c v hc
  exact ep_value hC
/-- A slice of two bytes, just built. -/
theorem SlB.two (w : World) (a b : BitVec 8) (x y : Int) (hx : bv a = x) (hy : bv b = y) (t : TypeId) : SlB (w.alloc (.cells #[.int .u8 x, .int .u8 y] t)) (.slice (some ⟨w.heap.size, 0, none⟩) 2 2) [a, b] := by
  subst hx hy
  exact .inr ⟨_, _, _, rfl, Nat.le_refl _, by decide, by simp, fun j hj => by
    simp only [List.length_cons, List.length_nil] at hj
    rcases (show j = 0 ∨ j = 1 by omega) with rfl | rfl
    · exact cell_of_row _ _ _ _ _ _ (heap_alloc_new w _)
    · exact cell_of_row _ _ _ _ _ _ (heap_alloc_new w _)⟩

set_option maxRecDepth 100000 in
set_option maxHeartbeats 4000000 in
theorem law_epochKnown {w : World} : Calls Try.prog 12 #[] w fun e w' => e = .returned (.bool true) ∧ Below w.heap.size w w' := by
  have HN := Lib.hid (dk_new 1 (by omega) (by omega) w)
  have HWK := Lib.hid works10_any
  go_enter Try.func12, Try.ntmps12
  go_upto_region 4 with (go_at_call 14; refine HN.out.mono ?_; rintro e w1 ⟨p, g, rfl, hD1, hp1, hg1, hb1⟩; have HS1 := Lib.hid (show KS w p g kD0 [] w1 from ⟨hD1, hb1, hp1, hg1, fun _ _ h => absurd h (by simp)⟩); clear hD1 hb1)
  clear HN
  have HO1 := Lib.hid (HS1.out.open_ok 0 kReads.1 kTells0)
  go_upto_region 5 with (go_at_call 41; refine HO1.out.mono ?_; rintro e w2 ⟨a, rfl, hS2⟩; have HS2 := Lib.hid hS2; clear hS2)
  clear HO1 HS1
  have HP2 := Lib.hid ((HS2.out.alloc (.cells #[.int .u8 1, .int .u8 1] 5)).put _ [1, 1] (SlB.two w2 1 1 1 1 rfl rfl 5) (by decide) (show _ = kD1 from rfl))
  rw [show (Dk.putAt kD0 0 [1, 1]).2 = 0 from kPuts.1] at HP2
  go_upto_region 6 with (go_at_call 16; refine HP2.out.mono ?_; rintro e w3 ⟨rfl, hS⟩; have HS3 := Lib.hid hS; clear hS)
  clear HP2 HS2
  have HO3 := Lib.hid (HS3.out.open_ok 2 kReads.2.1 kTells1)
  go_upto_region 7 with (go_at_call 41; refine HO3.out.mono ?_; rintro e w4 ⟨b, rfl, hS⟩; have HS4 := Lib.hid hS; clear hS)
  clear HO3 HS3
  have HP4 := Lib.hid ((HS4.out.alloc (.cells #[.int .u8 0, .int .u8 1] 5)).put _ [0, 1] (SlB.two w4 0 1 0 1 rfl rfl 5) (by decide) (show _ = kD2 from rfl))
  rw [show (Dk.putAt kD1 0 [0, 1]).2 = 0 from kPuts.2.1] at HP4
  go_upto_region 8 with (go_at_call 16; refine HP4.out.mono ?_; rintro e w5 ⟨rfl, hS⟩; have HS5 := Lib.hid hS; clear hS)
  clear HP4 HS4
  have HO5 := Lib.hid (HS5.out.open_bad kReads.2.2.1 kTells2)
  go_upto_region 9 with (go_at_call 41; refine HO5.out.mono ?_; rintro e w6 ⟨rfl, hS⟩; have HS6 := Lib.hid hS; clear hS)
  clear HO5 HS5
  have HP6 := Lib.hid ((HS6.out.alloc (.cells #[.int .u8 1, .int .u8 2] 5)).put _ [1, 2] (SlB.two w6 1 2 1 2 rfl rfl 5) (by decide) (show _ = kD3 from rfl))
  rw [show (Dk.putAt kD2 0 [1, 2]).2 = 0 from kPuts.2.2] at HP6
  go_upto_region 10 with (go_at_call 16; refine HP6.out.mono ?_; rintro e w7 ⟨rfl, hS⟩; have HS7 := Lib.hid hS; clear hS)
  clear HP6 HS6
  have HO7 := Lib.hid (HS7.out.open_bad kReads.2.2.2.1 kTells3)
  go_upto_region 11 with (go_at_call 41; refine HO7.out.mono ?_; rintro e w8 ⟨rfl, hS⟩; have HS8 := Lib.hid hS; clear hS)
  clear HO7 HS7
  have HO8 := Lib.hid (HS8.out.open_arg kReads.2.2.2.2.1)
  go_upto_region 12 with (go_at_call 41; refine HO8.out.mono ?_; rintro e w9 ⟨rfl, hS⟩; have HS9 := Lib.hid hS; clear hS)
  clear HO8 HS8
  have HO9 := Lib.hid (HS9.out.open_err kReads.2.2.2.2.2)
  go_upto_region 13 with (go_at_call 41; refine HO9.out.mono ?_; rintro e w10 ⟨rfl, hS⟩; have HS10 := Lib.hid hS; clear hS)
  clear HO9 HS9
  go_upto_region 16 with (go_at_call 41; refine (ep_open_nil _ _ _).mono ?_; rintro e w' ⟨rfl, rfl⟩)
  have hal := HS10.out.alloc (.cells #[.pointer none, .int .i64 0, .int .i64 0, .int .i64 0] 87)
  have hz : (w10.alloc (.cells #[.pointer none, .int .i64 0, .int .i64 0, .int .i64 0] 87)).cell? ⟨w10.heap.size, 0, none⟩ = some (.pointer none) := cell_of_row _ _ _ _ _ _ (heap_alloc_new w10 _)
  have HVA := Lib.hid (hal.value a 0 0 rfl (by simp))
  have HVB := Lib.hid (hal.value b 2 2 rfl (by simp))
  have HZN := Lib.hid (ep_next_zero _ _ hz)
  have HZV := Lib.hid (ep_value_zero _ _ hz)
  have HB := Lib.hid hal.2.1
  clear hal hz HS10
  generalize w10.alloc (.cells #[.pointer none, .int .i64 0, .int .i64 0, .int .i64 0] 87) = w11 at *
  go_wp2_with (first
    | (go_at_call 43; with_reducible refine Calls.mono HVA.out ?_; rintro e w' ⟨rfl, rfl⟩)
    | (go_at_call 43; with_reducible refine Calls.mono HVB.out ?_; rintro e w' ⟨rfl, rfl⟩)
    | (go_at_call 43; with_reducible refine Calls.mono HZV.out ?_; rintro e w' ⟨rfl, rfl⟩)
    | (go_at_call 43; with_reducible refine Calls.mono (ep_value_nil _) ?_; rintro e w' ⟨rfl, rfl⟩)
    | (go_at_call 42; with_reducible refine Calls.mono HZN.out ?_; rintro e w' ⟨rfl, rfl⟩)
    | (go_at_call 42; with_reducible refine Calls.mono (ep_next_nil _) ?_; rintro e w' ⟨rfl, rfl⟩)
    | (go_at_call 44; refine (HWK.out _).mono ?_; rintro e w5 ⟨rfl, hbw⟩))
  go_ret
  exact ⟨rfl, HB.out.trans (hbw.mono HB.out.size)⟩
end Go.Proofs.Ytdnjjemdnlegdaa
