/-
  The law DiskKnown: its walk.
-/
import Derived.Test.YtdnjjemdnlegdaaDl2
namespace Go.Proofs.Ytdnjjemdnlegdaa
set_option linter.unusedVariables false
set_option linter.unusedSimpArgs false
open Go Go.RowKit
attribute [local go_sem] shape?_at shape?_past markS_drew markS_size markS_cell

/-- No disk: none, or one that New did not make. -/
def Ni (w : World) (q : Option Addr) : Prop := q = none ∨ ∃ z, q = some ⟨z, 0, none⟩ ∧ w.cell? ⟨z, 0, none⟩ = some (.slice none 0 0)
theorem no_is {w : World} {q : Option Addr} (h : Ni w q) : Calls Try.prog 47 #[.pointer q] w fun e w' => e = .returned (.bool false) ∧ w = w' := by
  rcases h with rfl | ⟨z, rfl, hz⟩
  · go_enter Try.func47, Try.ntmps47
    go_wp2
    go_ret
    exact ⟨rfl, rfl⟩
  · go_enter Try.func47, Try.ntmps47
    go_wp2
    go_ret
    exact ⟨rfl, rfl⟩
theorem no_read {w : World} {q : Option Addr} (h : Ni w q) (a n : Int) : Calls Try.prog 26 #[.pointer q, .int .i64 a, .int .i64 n] w fun e w' => e = .returned (.tuple #[.slice none 0 0, .int .i64 1]) ∧ w = w' := by
  have HI := Lib.hid (no_is h)
  clear h
  go_enter Try.func26, Try.ntmps26
  go_wp2_with (go_at_call 47; refine HI.out.mono ?_; rintro e w' ⟨rfl, rfl⟩)
  first | (go_ret2; exact ⟨rfl, rfl⟩) | (go_loud (go_ret))
theorem no_write {w : World} {q : Option Addr} (h : Ni w q) (a : Int) (v : Value) : Calls Try.prog 19 #[.pointer q, .int .i64 a, v] w fun e w' => e = .returned (.int .i64 1) ∧ w = w' := by
  have HI := Lib.hid (no_is h)
  clear h
  go_enter Try.func19, Try.ntmps19
  go_wp2_with (go_at_call 47; refine HI.out.mono ?_; rintro e w' ⟨rfl, rfl⟩)
  go_ret
  exact ⟨rfl, rfl⟩
theorem no_cut (w : World) (a : Int) : Calls Try.prog 18 #[.pointer none, .int .i64 a, .agg #[.int .u8 0, .int .u8 0, .int .u8 0, .int .u8 0, .int .u8 0, .int .u8 0, .int .u8 0, .int .u8 0, .int .u8 0, .int .u8 0, .int .u8 0, .int .u8 0, .int .u8 0, .int .u8 0, .int .u8 0, .int .u8 0]] w fun e w' => e = .returned (.int .i64 1) ∧ Below w.heap.size w w' := by
  have HI := Lib.hid (fun w => no_is (w := w) (.inl rfl))
  go_enter Try.func18, Try.ntmps18
  go_wp2_with (go_at_call 47; refine (HI.out _).mono ?_; rintro e w' ⟨rfl, rfl⟩)
  go_ret
  exact ⟨rfl, (Below.refl _ _).alloc (Nat.le_refl _) _⟩
theorem no_restart {w : World} {q : Option Addr} (h : Ni w q)  : Calls Try.prog 25 #[.pointer q] w fun e w' => e = .returned (.int .i64 1) ∧ w = w' := by
  have HI := Lib.hid (no_is h)
  clear h
  go_enter Try.func25, Try.ntmps25
  go_wp2_with (go_at_call 47; refine HI.out.mono ?_; rintro e w' ⟨rfl, rfl⟩)
  go_ret
  exact ⟨rfl, rfl⟩
theorem no_off {w : World} {q : Option Addr} (h : Ni w q)  : Calls Try.prog 20 #[.pointer q] w fun e w' => e = .returned (.bool false) ∧ w = w' := by
  have HI := Lib.hid (no_is h)
  clear h
  go_enter Try.func20, Try.ntmps20
  go_wp2_with (go_at_call 47; refine HI.out.mono ?_; rintro e w' ⟨rfl, rfl⟩)
  go_ret
  exact ⟨rfl, rfl⟩
theorem no_sectors {w : World} {q : Option Addr} (h : Ni w q)  : Calls Try.prog 27 #[.pointer q] w fun e w' => e = .returned (.int .i64 0) ∧ w = w' := by
  have HI := Lib.hid (no_is h)
  clear h
  go_enter Try.func27, Try.ntmps27
  go_wp2_with (go_at_call 47; refine HI.out.mono ?_; rintro e w' ⟨rfl, rfl⟩)
  go_ret
  exact ⟨rfl, rfl⟩
theorem no_bytes {w : World} {q : Option Addr} (h : Ni w q)  : Calls Try.prog 17 #[.pointer q] w fun e w' => e = .returned (.slice none 0 0) ∧ w = w' := by
  have HI := Lib.hid (no_is h)
  clear h
  go_enter Try.func17, Try.ntmps17
  go_wp2_with (go_at_call 47; refine HI.out.mono ?_; rintro e w' ⟨rfl, rfl⟩)
  go_ret
  exact ⟨rfl, rfl⟩
theorem no_put {w : World} {q : Option Addr} (h : Ni w q) (a : Int) (v : Value) : Calls Try.prog 16 #[.pointer q, .int .i64 a, v] w fun e w' => e = .returned (.int .i64 1) ∧ w = w' := by
  have HI := Lib.hid (no_is h)
  clear h
  go_enter Try.func16, Try.ntmps16
  go_wp2_with (go_at_call 47; refine HI.out.mono ?_; rintro e w' ⟨rfl, rfl⟩)
  go_ret
  exact ⟨rfl, rfl⟩
theorem no_copy {w : World} {q : Option Addr} (h : Ni w q)  : Calls Try.prog 24 #[.pointer q] w fun e w' => e = .returned (.pointer none) ∧ w = w' := by
  have HI := Lib.hid (no_is h)
  clear h
  go_enter Try.func24, Try.ntmps24
  go_wp2_with (go_at_call 47; refine HI.out.mono ?_; rintro e w' ⟨rfl, rfl⟩)
  go_ret
  exact ⟨rfl, rfl⟩
theorem new_no (n : Int) (h : n < 1 ∨ 16384 < n) (hn : -9223372036854775808 ≤ n) (hn2 : n ≤ 9223372036854775807) (w : World) : Calls Try.prog 14 #[.int .i64 n] w fun e w' => e = .returned (.tuple #[.pointer none, .int .i64 2]) ∧ w = w' := by
  rcases h with h | h
  · go_enter Try.func14, Try.ntmps14
    go_wp2
    go_ret2
    exact ⟨rfl, rfl⟩
  · go_enter Try.func14, Try.ntmps14
    go_wp2
    go_ret2
    exact ⟨rfl, rfl⟩

def kd : Dk.D := Dk.fresh 2
set_option maxRecDepth 100000 in
theorem kf_write_x : Dk.write kd 0 [120] = (kd, 2) := rfl
set_option maxRecDepth 100000 in
theorem kf_write_2 : Dk.write kd 2 [] = (kd, 0) := rfl
set_option maxRecDepth 100000 in
theorem kf_write_m : Dk.write kd (-1) [] = (kd, 2) := rfl
set_option maxRecDepth 100000 in
theorem kf_put_2 : Dk.putAt kd 256 [] = (kd, 0) := rfl
set_option maxRecDepth 100000 in
theorem kf_put_x : Dk.putAt kd 256 [120] = (kd, 2) := rfl
set_option maxRecDepth 100000 in
theorem kf_cut : Dk.cut kd (-1) (List.replicate 16 0) = (kd, 2) := rfl
set_option maxRecDepth 100000 in
theorem kf_read_12 : (Dk.read kd 1 2).2 = 2 := rfl
set_option maxRecDepth 100000 in
theorem kf_read_20 : (Dk.read kd 2 0).2 = 0 := rfl
/-- The state of the walk. -/
def DS (w : World) (p g : Nat) (wx : World) : Prop := DiskAt wx p g kd ∧ Below w.heap.size w wx ∧ w.heap.size ≤ p ∧ w.heap.size ≤ g
theorem DS.below {w : World} {p g : Nat} {wx wy : World} (h : DS w p g wx) (hb : Below wx.heap.size wx wy) : DS w p g wy :=
  ⟨h.1.below hb (Nat.le_refl _), h.2.1.trans (hb.mono h.2.1.size), h.2.2.1, h.2.2.2⟩
theorem DS.kept {w : World} {p g : Nat} {wx wy : World} (h : DS w p g wx) (hk : Kept [p, g] wx wy) (hd : DiskAt wy p g kd) : DS w p g wy :=
  ⟨hd, h.2.1.trans (hk.toBelow (by intro k hk; simp at hk; have := h.2.2.1; have := h.2.2.2; omega) h.2.1.size), h.2.2.1, h.2.2.2⟩
/-- The world behind []byte("x"). -/
def oneX (wx : World) : World := markS (wx.alloc (.cells #[.int .u8 120] 5)) wx.heap.size
theorem DS.one {w : World} {p g : Nat} {wx : World} (h : DS w p g wx) : DS w p g (oneX wx) :=
  h.below (Below.markS ((Below.refl _ wx).alloc (Nat.le_refl _) _) _ (Nat.le_refl _))
theorem oneX_sl (wx : World) : SlB (oneX wx) (.slice (some ⟨wx.heap.size, 0, none⟩) 1 1) [120] :=
  .inr ⟨_, _, _, rfl, Nat.le_refl _, by decide, by rw [oneX, markS_size]; simp, fun j hj => by
    simp only [List.length_cons, List.length_nil] at hj
    obtain rfl : j = 0 := by omega
    rw [oneX, markS_cell]
    exact cell_of_row _ _ _ _ _ _ (heap_alloc_new wx _)⟩
theorem DS.write_x {w : World} {p g : Nat} {wx : World} (h : DS w p g wx) : Calls Try.prog 19 #[.pointer (some ⟨p, 0, none⟩), .int .i64 0, .slice (some ⟨wx.heap.size, 0, none⟩) 1 1] (markS (wx.alloc (.cells #[.int .u8 120] 5)) wx.heap.size) fun e w' => e = .returned (.int .i64 2) ∧ DS w p g w' := by
  have H := dk_write h.one.1 0 _ [120] (oneX_sl wx) (by decide) (fun _ k hk => by simp [Value.ownBlock] at hk; subst hk; have := h.1.ltp; have := h.1.ltg; simp; omega) (by omega) (by omega)
  rw [kf_write_x] at H
  exact H.mono fun e w' ⟨he, hD, hK⟩ => ⟨he, h.one.kept hK hD⟩
theorem DS.write_2 {w : World} {p g : Nat} {wx : World} (h : DS w p g wx) : Calls Try.prog 19 #[.pointer (some ⟨p, 0, none⟩), .int .i64 2, .slice none 0 0] wx fun e w' => e = .returned (.int .i64 0) ∧ DS w p g w' := by
  have H := dk_write h.1 2 _ [] (SlB.nil wx) (by decide) (fun h => absurd rfl h) (by omega) (by omega)
  rw [kf_write_2] at H
  exact H.mono fun e w' ⟨he, hD, hK⟩ => ⟨he, h.kept hK hD⟩
theorem DS.write_m {w : World} {p g : Nat} {wx : World} (h : DS w p g wx) : Calls Try.prog 19 #[.pointer (some ⟨p, 0, none⟩), .int .i64 (-1), .slice none 0 0] wx fun e w' => e = .returned (.int .i64 2) ∧ DS w p g w' := by
  have H := dk_write h.1 (-1) _ [] (SlB.nil wx) (by decide) (fun h => absurd rfl h) (by omega) (by omega)
  rw [kf_write_m] at H
  exact H.mono fun e w' ⟨he, hD, hK⟩ => ⟨he, h.kept hK hD⟩
theorem DS.put_2 {w : World} {p g : Nat} {wx : World} (h : DS w p g wx) : Calls Try.prog 16 #[.pointer (some ⟨p, 0, none⟩), .int .i64 256, .slice none 0 0] wx fun e w' => e = .returned (.int .i64 0) ∧ DS w p g w' := by
  have H := dk_put h.1 256 _ [] (SlB.nil wx) (by decide) (by omega) (by omega)
  rw [kf_put_2] at H
  exact H.mono fun e w' ⟨he, hD, hK⟩ => ⟨he, h.kept hK hD⟩
theorem DS.put_x {w : World} {p g : Nat} {wx : World} (h : DS w p g wx) : Calls Try.prog 16 #[.pointer (some ⟨p, 0, none⟩), .int .i64 256, .slice (some ⟨wx.heap.size, 0, none⟩) 1 1] (markS (wx.alloc (.cells #[.int .u8 120] 5)) wx.heap.size) fun e w' => e = .returned (.int .i64 2) ∧ DS w p g w' := by
  have H := dk_put h.one.1 256 _ [120] (oneX_sl wx) (by decide) (by omega) (by omega)
  rw [kf_put_x] at H
  exact H.mono fun e w' ⟨he, hD, hK⟩ => ⟨he, h.one.kept hK hD⟩
theorem DS.cut_m {w : World} {p g : Nat} {wx : World} (h : DS w p g wx) : Calls Try.prog 18 #[.pointer (some ⟨p, 0, none⟩), .int .i64 (-1), .agg #[.int .u8 0, .int .u8 0, .int .u8 0, .int .u8 0, .int .u8 0, .int .u8 0, .int .u8 0, .int .u8 0, .int .u8 0, .int .u8 0, .int .u8 0, .int .u8 0, .int .u8 0, .int .u8 0, .int .u8 0, .int .u8 0]] wx fun e w' => e = .returned (.int .i64 2) ∧ DS w p g w' := by
  have H := dk_cut h.1 (-1) (List.replicate 16 0) rfl (by omega)
  rw [kf_cut] at H
  exact H.mono fun e w' ⟨he, hD, hK⟩ => ⟨he, h.kept hK hD⟩
theorem DS.read_12 {w : World} {p g : Nat} {wx : World} (h : DS w p g wx) : Calls Try.prog 26 #[.pointer (some ⟨p, 0, none⟩), .int .i64 1, .int .i64 2] wx fun e w' => ∃ v, e = .returned (.tuple #[v, .int .i64 2]) ∧ DS w p g w' := by
  have H := dk_read h.1 1 2 (by omega) (by omega) (by omega)
  rw [kf_read_12] at H
  exact H.mono fun e w' ⟨v, he, _, hb⟩ => ⟨v, he, h.below hb⟩
theorem DS.read_20 {w : World} {p g : Nat} {wx : World} (h : DS w p g wx) : Calls Try.prog 26 #[.pointer (some ⟨p, 0, none⟩), .int .i64 2, .int .i64 0] wx fun e w' => ∃ v, e = .returned (.tuple #[v, .int .i64 0]) ∧ DS w p g w' := by
  have H := dk_read h.1 2 0 (by omega) (by omega) (by omega)
  rw [kf_read_20] at H
  exact H.mono fun e w' ⟨v, he, _, hb⟩ => ⟨v, he, h.below hb⟩

set_option maxRecDepth 100000 in
set_option maxHeartbeats 4000000 in
theorem law_diskKnown {w : World} : Calls Try.prog 5 #[] w fun e w' => e = .returned (.bool true) ∧ Below w.heap.size w w' := by
  have hn := dk_new 2 (by omega) (by omega) w
  rw [show ((2 : Nat) : Int) = 2 from rfl] at hn
  have HN := Lib.hid hn
  clear hn
  have HWK := Lib.hid works_any
  have HN0 := Lib.hid (new_no 0 (by omega) (by omega) (by omega) w)
  have HN1 := Lib.hid (new_no 16385 (by omega) (by omega) (by omega) w)
  have kc := fun (w : World) (b o n c : Nat) => run_convert_same (P := Try.prog) w 22 5 b o n c Try.underlying22 Try.underlying5
  go_enter Try.func5, Try.ntmps5
  go_upto_region 6 with (first
    | (go_at_call 14; with_reducible refine Calls.mono HN0.out ?_; rintro e w' ⟨rfl, rfl⟩)
    | (go_at_call 14; with_reducible refine Calls.mono HN1.out ?_; rintro e w' ⟨rfl, rfl⟩)
    | (go_at_call 14; go_loud (refine HN.out.mono ?_; rintro e w1 ⟨p, g, rfl, hD1, hp1, hg1, hb1⟩; have HS := Lib.hid (show DS w p g w1 from ⟨hD1, hb1, hp1, hg1⟩); clear hD1 hb1)))
  clear HN HN0 HN1
  go_upto_region 8 with (first
    | (go_at_call 26; with_reducible refine Calls.mono (DS.read_12 HS.out) ?_; rintro e w2 ⟨v2, rfl, hS⟩; replace HS := Lib.hid hS; clear hS)
    | (go_at_call 26; with_reducible refine Calls.mono (DS.read_20 HS.out) ?_; rintro e w2 ⟨v2, rfl, hS⟩; replace HS := Lib.hid hS; clear hS))
  go_upto_region 10 with (first
    | (go_at_call 19; with_reducible refine Calls.mono (DS.write_x HS.out) ?_; rintro e w2 ⟨rfl, hS⟩; replace HS := Lib.hid hS; clear hS)
    | (go_at_call 19; with_reducible refine Calls.mono (DS.write_2 HS.out) ?_; rintro e w2 ⟨rfl, hS⟩; replace HS := Lib.hid hS; clear hS)
    | (go_at_call 19; with_reducible refine Calls.mono (DS.write_m HS.out) ?_; rintro e w2 ⟨rfl, hS⟩; replace HS := Lib.hid hS; clear hS)
    | (go_at_call 18; with_reducible refine Calls.mono (DS.cut_m HS.out) ?_; rintro e w2 ⟨rfl, hS⟩; replace HS := Lib.hid hS; clear hS)
    | (go_at_call 16; with_reducible refine Calls.mono (DS.put_2 HS.out) ?_; rintro e w2 ⟨rfl, hS⟩; replace HS := Lib.hid hS; clear hS)
    | (go_at_call 16; with_reducible refine Calls.mono (DS.put_x HS.out) ?_; rintro e w2 ⟨rfl, hS⟩; replace HS := Lib.hid hS; clear hS))
  clear kc
  go_upto_region 13 with (go_at_call 26; refine (no_read (.inl rfl) 0 0).mono ?_; rintro e w' ⟨rfl, rfl⟩)
  have H0 := HS.out.below ((Below.refl _ _).alloc (Nat.le_refl _) (.cells #[.slice none 0 0, .bool false, .int .i64 0, .int .u8 0, .int .u8 0, .int .u8 0, .int .u8 0, .int .u8 0, .int .u8 0, .int .u8 0, .int .u8 0, .int .u8 0, .int .u8 0, .int .u8 0, .int .u8 0, .int .u8 0, .int .u8 0, .int .u8 0, .int .u8 0, .int .i64 0] 46))
  have HB := Lib.hid H0.2.1
  have hz : (w2.alloc (.cells #[.slice none 0 0, .bool false, .int .i64 0, .int .u8 0, .int .u8 0, .int .u8 0, .int .u8 0, .int .u8 0, .int .u8 0, .int .u8 0, .int .u8 0, .int .u8 0, .int .u8 0, .int .u8 0, .int .u8 0, .int .u8 0, .int .u8 0, .int .u8 0, .int .u8 0, .int .i64 0] 46)).cell? ⟨w2.heap.size, 0, none⟩ = some (.slice none 0 0) := cell_of_row _ _ _ _ _ _ (heap_alloc_new w2 _)
  have hlt : w2.heap.size < (w2.alloc (.cells #[.slice none 0 0, .bool false, .int .i64 0, .int .u8 0, .int .u8 0, .int .u8 0, .int .u8 0, .int .u8 0, .int .u8 0, .int .u8 0, .int .u8 0, .int .u8 0, .int .u8 0, .int .u8 0, .int .u8 0, .int .u8 0, .int .u8 0, .int .u8 0, .int .u8 0, .int .i64 0] 46)).heap.size := by simp
  clear H0 HS
  generalize w2.alloc (.cells #[.slice none 0 0, .bool false, .int .i64 0, .int .u8 0, .int .u8 0, .int .u8 0, .int .u8 0, .int .u8 0, .int .u8 0, .int .u8 0, .int .u8 0, .int .u8 0, .int .u8 0, .int .u8 0, .int .u8 0, .int .u8 0, .int .u8 0, .int .u8 0, .int .u8 0, .int .i64 0] 46) = w11 at *
  have HNI := Lib.hid (show ∀ wx, Below w11.heap.size w11 wx → Ni wx (some ⟨w2.heap.size, 0, none⟩) from fun wx hb => .inr ⟨_, rfl, (hb.cell (p := ⟨w2.heap.size, 0, none⟩) hlt).trans hz⟩)
  have HW := Lib.hid (no_write (HNI.out w11 (Below.refl _ _)) 0 (.slice none 0 0))
  have HC := Lib.hid (no_cut w11 0)
  clear hz hlt
  go_wp2_with (first
    | (go_at_call 19; refine HW.out.mono ?_; rintro e w' ⟨rfl, rfl⟩)
    | (go_at_call 18; refine HC.out.mono ?_; rintro e w12 ⟨rfl, hb⟩; have HB2 := Lib.hid hb; have HZ := Lib.hid (HNI.out w12 hb); clear hb)
    | (go_at_call 25; refine (no_restart HZ.out).mono ?_; rintro e w' ⟨rfl, rfl⟩)
    | (go_at_call 20; refine (no_off (.inl rfl)).mono ?_; rintro e w' ⟨rfl, rfl⟩)
    | (go_at_call 27; refine (no_sectors HZ.out).mono ?_; rintro e w' ⟨rfl, rfl⟩)
    | (go_at_call 17; refine (no_bytes (.inl rfl)).mono ?_; rintro e w' ⟨rfl, rfl⟩)
    | (go_at_call 16; refine (no_put HZ.out 0 (.slice none 0 0)).mono ?_; rintro e w' ⟨rfl, rfl⟩)
    | (go_at_call 24; with_reducible refine Calls.mono (no_copy HZ.out) ?_; rintro e w' ⟨rfl, rfl⟩)
    | (go_at_call 24; refine (no_copy (.inl rfl)).mono ?_; rintro e w' ⟨rfl, rfl⟩)
    | (go_at_call 21; refine (HWK.out _).mono ?_; rintro e w5 ⟨rfl, hbw⟩))
  go_ret
  exact ⟨rfl, HB.out.trans ((HB2.out.trans (hbw.mono HB2.out.size)).mono HB.out.size)⟩
end Go.Proofs.Ytdnjjemdnlegdaa
