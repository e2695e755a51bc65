/-
  The disk's small calls: is, has, may, Off, Writes, Sectors, Bytes, Read, Restart, New.
-/
import Derived.Test.YtdnjjemdnlegdaaDkP
import Derived.Deep.QuietTactic
import Derived.BigQuiet
import Derived.Deep.RegionWith
import Derived.Deep.DeepCutAuto
namespace Go.Proofs.Ytdnjjemdnlegdaa
set_option linter.unusedVariables false
set_option linter.unusedSimpArgs false
open Go Go.RowKit

theorem dk_is {w : World} {p g : Nat} {d : Dk.D} (h : DiskAt w p g d) : Calls Try.prog 47 #[.pointer (some ⟨p, 0, none⟩)] w fun e w' => e = .returned (.bool true) ∧ w = w' := by
  have c0 := h.c0
  have hp := h.pos
  have hcp := h.caps
  have h0 : 0 < d.b.length := by omega
  generalize d.cap = cap at *
  generalize d.b.length = n at *
  go_enter Try.func47, Try.ntmps47
  go_wp2
  go_ret
  exact ⟨rfl, rfl⟩

theorem dk_has {w : World} {p g : Nat} {d : Dk.D} (h : DiskAt w p g d) (at_ n : Int) (ha : at_ ≤ 9223372036854775807) (hn : n ≤ 9223372036854775807) (hn0 : -9223372036854775808 ≤ n) :
    Calls Try.prog 64 #[.pointer (some ⟨p, 0, none⟩), .int .i64 at_, .int .i64 n] w fun e w' => e = .returned (.bool (Dk.has d at_ n)) ∧ w = w' := by
  have c0 := h.c0
  have hp := h.pos
  have hcp := h.caps
  have HH := Lib.hid (show Dk.has d at_ n = (decide (0 ≤ at_) && decide (0 ≤ n) && decide (at_ ≤ ((d.b.length / 128 : Nat) : Int)) && decide (n ≤ ((d.b.length / 128 : Nat) : Int) - at_)) from rfl)
  generalize Dk.has d at_ n = r at HH ⊢
  generalize d.cap = cap at *
  generalize d.b.length = m at *
  by_cases h1 : 0 ≤ at_
  · by_cases h2 : 0 ≤ n
    · by_cases h3 : at_ ≤ (m : Int) / 128
      · by_cases h4 : n ≤ (m : Int) / 128 - at_
        all_goals
          go_enter Try.func64, Try.ntmps64
          go_wp2
          go_ret
          refine ⟨?_, rfl⟩
          rw [HH.out]
          simp [h1, h2, h3, h4] <;> (intros; omega)
      · go_enter Try.func64, Try.ntmps64
        go_wp2
        go_ret
        refine ⟨?_, rfl⟩
        rw [HH.out]
        simp [h1, h2, h3] <;> (intros; omega)
    · go_enter Try.func64, Try.ntmps64
      go_wp2
      go_ret
      refine ⟨?_, rfl⟩
      rw [HH.out]
      simp [h1, h2] <;> (intros; omega)
  · go_enter Try.func64, Try.ntmps64
    go_wp2
    go_ret
    refine ⟨?_, rfl⟩
    rw [HH.out]
    simp [h1] <;> (intros; omega)

theorem dk_may {w : World} {p g : Nat} {d : Dk.D} (h : DiskAt w p g d) (at_ n : Int) (ha : at_ ≤ 9223372036854775807) (hn : n ≤ 9223372036854775807) (hn0 : -9223372036854775808 ≤ n) :
    Calls Try.prog 49 #[.pointer (some ⟨p, 0, none⟩), .int .i64 at_, .int .i64 n] w fun e w' => e = .returned (.int .i64 (Dk.may d at_ n)) ∧ w = w' := by
  have c1 := h.c1
  have HC := Lib.hid (dk_has h at_ n ha hn hn0)
  have HM := Lib.hid (show Dk.may d at_ n = if Dk.has d at_ n = true then (if d.off = true then 12 else 0) else 2 from rfl)
  generalize Dk.may d at_ n = r at HM ⊢
  generalize Dk.has d at_ n = q at HM HC
  generalize d.off = o at HM c1
  cases q <;> cases o
  all_goals
    go_enter Try.func49, Try.ntmps49
    go_wp2_with (go_at_call 64; refine HC.out.mono ?_; rintro e w' ⟨rfl, rfl⟩)
    go_ret
    refine ⟨?_, rfl⟩
    rw [HM.out]
    rfl

theorem dk_off {w : World} {p g : Nat} {d : Dk.D} (h : DiskAt w p g d) : Calls Try.prog 20 #[.pointer (some ⟨p, 0, none⟩)] w fun e w' => e = .returned (.bool d.off) ∧ w = w' := by
  have c1 := h.c1
  have HC := Lib.hid (dk_is h)
  generalize d.off = o at c1 ⊢
  go_enter Try.func20, Try.ntmps20
  go_wp2_with (go_at_call 47; refine HC.out.mono ?_; rintro e w' ⟨rfl, rfl⟩)
  go_ret
  exact ⟨rfl, rfl⟩

theorem dk_writes {w : World} {p g : Nat} {d : Dk.D} (h : DiskAt w p g d) : Calls Try.prog 23 #[.pointer (some ⟨p, 0, none⟩)] w fun e w' => e = .returned (.int .i64 d.writes) ∧ w = w' := by
  have c1 := h.c19
  have HC := Lib.hid (dk_is h)
  generalize d.writes = o at c1 ⊢
  go_enter Try.func23, Try.ntmps23
  go_wp2_with (go_at_call 47; refine HC.out.mono ?_; rintro e w' ⟨rfl, rfl⟩)
  go_ret
  exact ⟨rfl, rfl⟩

theorem dk_sectors {w : World} {p g : Nat} {d : Dk.D} (h : DiskAt w p g d) : Calls Try.prog 27 #[.pointer (some ⟨p, 0, none⟩)] w fun e w' => e = .returned (.int .i64 ((d.b.length / 128 : Nat) : Int)) ∧ w = w' := by
  have c0 := h.c0
  have hp := h.pos
  have hcp := h.caps
  have HC := Lib.hid (dk_is h)
  generalize d.cap = cap at *
  generalize d.b.length = o at c0 hp hcp ⊢
  go_enter Try.func27, Try.ntmps27
  go_wp2_with (go_at_call 47; refine HC.out.mono ?_; rintro e w' ⟨rfl, rfl⟩)
  go_ret
  exact ⟨ret_int (by omega), rfl⟩

theorem dk_bytes {w : World} {p g : Nat} {d : Dk.D} (h : DiskAt w p g d) : Calls Try.prog 17 #[.pointer (some ⟨p, 0, none⟩)] w (RetB w d.b) := by
  have c0 := h.c0
  have HC := Lib.hid (dk_is h)
  have HB := Lib.hid (clone_any _ _ w h.sl (by have := h.pos; omega))
  generalize d.cap = cap at *
  generalize d.b.length = o at c0 HB
  go_enter Try.func17, Try.ntmps17
  go_wp2_with (first | (go_at_call 47; refine HC.out.mono ?_; rintro e w' ⟨rfl, rfl⟩) | (go_at_call 48; refine HB.out.mono ?_; rintro e w1 ⟨v1, rfl, ho, hb⟩))
  go_ret
  exact ⟨_, rfl, ho, hb⟩

theorem dk_restart {w : World} {p g : Nat} {d : Dk.D} (h : DiskAt w p g d) : Calls Try.prog 25 #[.pointer (some ⟨p, 0, none⟩)] w fun e w' => e = .returned (.int .i64 0) ∧ DiskAt w' p g (Dk.restart d) ∧ Kept [p, g] w w' := by
  have c1 := h.c1
  have c2 := h.c2
  have f1 := h.fr 1
  have f2 := h.fr 2
  have HC := Lib.hid (dk_is h)
  go_enter Try.func25, Try.ntmps25
  go_wp2_with (go_at_call 47; refine HC.out.mono ?_; rintro e w' ⟨rfl, rfl⟩)
  go_ret
  exact ⟨rfl, (h.setOff false).setLeft (-1) (by decide) (by decide), ((Kept.refl _ w).setCell (by simp) _).setCell (by simp) _⟩

theorem dk_read {w : World} {p g : Nat} {d : Dk.D} (h : DiskAt w p g d) (at_ n : Int) (ha : at_ ≤ 9223372036854775807) (hn : n ≤ 9223372036854775807) (hn0 : -9223372036854775808 ≤ n) :
    Calls Try.prog 26 #[.pointer (some ⟨p, 0, none⟩), .int .i64 at_, .int .i64 n] w fun e w' => ∃ v, e = .returned (.tuple #[v, .int .i64 (Dk.read d at_ n).2]) ∧ OwnB 5 w.heap.size w' v (Dk.read d at_ n).1 ∧ Below w.heap.size w w' := by
  have c0 := h.c0
  have hp := h.pos
  have hcp := h.caps
  have HC := Lib.hid (dk_is h)
  have HM := Lib.hid (dk_may h at_ n ha hn hn0)
  by_cases hm : Dk.may d at_ n = 0
  · have h2 := (Dk.may_zero d at_ n).1 hm
    have hr : Dk.read d at_ n = ((d.b.drop (128 * at_.toNat)).take (128 * n.toNat), 0) := by unfold Dk.read; rw [if_neg (by omega)]
    obtain ⟨a, rfl⟩ := Int.eq_ofNat_of_zero_le h2.1.1
    obtain ⟨k, rfl⟩ := Int.eq_ofNat_of_zero_le h2.1.2.1
    rw [hr]
    rw [hm] at HM
    simp only [Int.toNat_natCast]
    have hs := (h.sl.drop (128 * a) (by omega)).take (128 * k) (by omega)
    rw [Nat.zero_add] at hs
    have hyl : ((d.b.drop (128 * a)).take (128 * k)).length = 128 * k := by simp; omega
    generalize (d.b.drop (128 * a)).take (128 * k) = ys at *
    have hak := h2.1.2.2
    have hgl := h.ltg
    clear hr hm h2 h
    generalize d.cap = c at *
    generalize d.b.length = m at *
    have e1 : (a : Int) * 128 ≤ m := by omega
    have e2 : ((a : Int) + k) * 128 ≤ m := by omega
    have e3 : (a : Int) * 128 ≤ ((a : Int) + k) * 128 := by omega
    by_cases hz : c = a * 128
    · obtain rfl : k = 0 := by omega
      obtain rfl : m = a * 128 := by omega
      obtain rfl : ys = [] := List.eq_nil_of_length_eq_zero (by omega)
      have hs' : SlB w (.slice (some ⟨g, 0, none⟩) 0 0) [] := .inr ⟨g, 0, 0, rfl, Nat.le_refl _, by decide, hgl, fun j hj => by simp at hj⟩
      have HB := Lib.hid (clone_any _ _ w hs' (by simp))
      have hz' : c - a * 128 = 0 := by omega
      have hz2 : (a + 0) * 128 - a * 128 = 0 := by omega
      go_enter Try.func26, Try.ntmps26
      go_wp2_with (first | (go_at_call 47; refine HC.out.mono ?_; rintro e w' ⟨rfl, rfl⟩) | (go_at_call 49; refine HM.out.mono ?_; rintro e w' ⟨rfl, rfl⟩) | (go_at_call 48; refine HB.out.mono ?_; rintro e w1 ⟨v1, rfl, ho, hb⟩))
      refine bodyPost_ret (v := .tuple #[v1, .int .i64 0]) (by simp [results, Try.results26, go_sem]) rfl ⟨v1, rfl, ho, hb⟩
    · have hs' : SlB w (.slice (some ⟨g, a * 128, none⟩) ((a + k) * 128 - a * 128) (c - a * 128)) ys := by
        rw [show a * 128 = 128 * a by omega, show (a + k) * 128 - 128 * a = 128 * k by omega]
        exact hs
      have HB := Lib.hid (clone_any _ _ w hs' (by omega))
      have hz' : ¬ c - a * 128 = 0 := by omega
      clear hs hs'
      go_enter Try.func26, Try.ntmps26
      go_wp2_with (first | (go_at_call 47; refine HC.out.mono ?_; rintro e w' ⟨rfl, rfl⟩) | (go_at_call 49; refine HM.out.mono ?_; rintro e w' ⟨rfl, rfl⟩) | (go_at_call 48; refine HB.out.mono ?_; rintro e w1 ⟨v1, rfl, ho, hb⟩))
      refine bodyPost_ret (v := .tuple #[v1, .int .i64 0]) (by simp [results, Try.results26, go_sem]) rfl ⟨v1, rfl, ho, hb⟩
  · have hr : Dk.read d at_ n = ([], Dk.may d at_ n) := by unfold Dk.read; rw [if_pos hm]
    rw [hr]
    generalize Dk.may d at_ n = r at *
    go_enter Try.func26, Try.ntmps26
    go_wp2_with (first | (go_at_call 47; refine HC.out.mono ?_; rintro e w' ⟨rfl, rfl⟩) | (go_at_call 49; refine HM.out.mono ?_; rintro e w' ⟨rfl, rfl⟩))
    refine bodyPost_ret (v := .tuple #[.slice none 0 0, .int .i64 r]) (by simp [results, Try.results26, go_sem]) rfl ⟨_, rfl, OwnB.nil _ _ _, Below.refl _ _⟩

set_option maxRecDepth 100000 in
/-- A new disk. -/
theorem dk_new (n : Nat) (h0 : 1 ≤ n) (h : n ≤ 16384) (w : World) : Calls Try.prog 14 #[.int .i64 n] w fun e w' =>
    ∃ p g, e = .returned (.tuple #[.pointer (some ⟨p, 0, none⟩), .int .i64 0]) ∧ DiskAt w' p g (Dk.fresh n) ∧ w.heap.size ≤ p ∧ w.heap.size ≤ g ∧ Below w.heap.size w w' := by
  obtain ⟨i, hi, hz, hsz, hby⟩ := info_parts info_u8
  have hm := run_makeSlice (P := Try.prog) w 22 5 i (.int .u8 0) Try.underlying22 hi hz .i64 .i64 ((n : Int) * 128) ((n : Int) * 128) (by omega) (by omega) (by rw [hsz]; omega) (by rw [hby]; omega) (by omega)
  rw [hsz, show ((n : Int) * 128).toNat = n * 128 by omega, Nat.mul_one] at hm
  have hc : madeCells (Value.int .u8 0).cells (n * 128) = bytes (List.replicate (n * 128) 0) := by
    have e0 : (Value.int .u8 0).cells = #[.int .u8 0] := rfl
    apply Array.ext_getElem?
    intro j
    by_cases hj : j < n * 128
    · rw [bytes_get? _ j (by simpa using hj)]
      simp [madeCells, e0, hj, bv, Nat.mod_one]
    · rw [Array.getElem?_eq_none (by rw [size_madeCells]; omega), Array.getElem?_eq_none (by rw [bytes_size]; simp; omega)]
  rw [hc] at hm
  obtain ⟨Z, hZ⟩ : ∃ Z, Z = bytes (List.replicate (n * 128) 0) := ⟨_, rfl⟩
  rw [← hZ] at hm
  have HZ := Lib.hid hZ
  clear hi hz hsz hby hc hZ
  have h1 : (1 : Int) ≤ n := by omega
  have h2 : (n : Int) ≤ 16384 := by omega
  have HM := Lib.hid hm
  clear hm
  go_enter Try.func14, Try.ntmps14
  go_upto_region 3 with fail
  have hm := HM.out
  clear h0 h HM
  go_wp2
  refine bodyPost_ret (v := .tuple #[.pointer (some ⟨w.heap.size + 1, 0, none⟩), .int .i64 0]) (by simp [results, Try.results14, go_sem]) rfl ⟨w.heap.size + 1, w.heap.size, rfl, ⟨?_, ?_, by omega, Dk.Ok.fresh n (by omega) (by omega)⟩, by omega, Nat.le_refl _, ?_⟩
  · rw [heapA_new _ _ _ (by simp)]
    simp [dcells, Dk.fresh, Dk.D.cap, bcells, byteV, bv, List.replicate]
  · rw [heapA_old _ _ _ (by simp), heapA_new _ _ _ rfl, HZ.out]
    simp [Dk.fresh, ← bytes_toList]
  · exact ((Below.refl _ w).alloc (Nat.le_refl _) _).alloc (by simp) _
end Go.Proofs.Ytdnjjemdnlegdaa
