/-
  The library's slices.Grow and Concat at slices of bytes.
-/
import Derived.Test.YtnoilogepkelaaaDoorLibC
import Derived.Lib.AppendZeros
namespace Go.Proofs.YtnoilogepkelaaaDoor
set_option linter.unusedVariables false
set_option linter.unusedSimpArgs false
open Go Go.RowKit

theorem own_zeros (w : World) (n : Nat) (h0 : 0 < n) (hn : n ≤ 1000000000) :
    OwnB 5 w.heap.size (w.drew.alloc (.cells (Builtin.zeroCells #[.int .u8 0] n ++ Builtin.zeroCells #[.int .u8 0] (grownCap w n 0 5 - n)) 5))
      (.slice (some ⟨w.heap.size, 0, none⟩) 0 (grownCap w n 0 5)) [] := by
  have hge := grownCap_ge w n 0 5
  have hle := grownCap_le_maxLen w n 0 5 (by unfold maxLen; omega)
  refine ⟨rfl, .inr ⟨w.heap.size, _, _, rfl, Nat.le_refl _, heap_alloc_new w.drew _, Nat.zero_le _, hle, ?_, by simp [bcells]⟩⟩
  simp [size_zeroCells]
  omega

theorem grow_nil (k : Int) (w : World) (h0 : 0 ≤ k) (hk : k ≤ 1000000000) :
    Calls Tryd.prog 90 #[.slice none 0 0, .int .i64 k] w (RetB w []) := by
  obtain ⟨n, rfl⟩ := Int.eq_ofNat_of_zero_le h0
  by_cases hn : n = 0
  · subst hn
    go_enter Tryd.func90, Tryd.ntmps90
    go_wp2
    go_ret
    exact ⟨_, rfl, OwnB.nil _ _ _, Below.refl _ _⟩
  · have hz := own_zeros w n (by omega) (by omega)
    have hpos : (0 : Int) < (n : Int) := by omega
    obtain ⟨i, hi0, hiz, hisz, hiby⟩ := info_parts info_u8
    have hrun := fun ty => Lib.run_append_nil_zeros w 22 3 ty 5 i (.int .u8 0) .i64 .i64 Tryd.underlying22 Tryd.underlying3 hi0 hiz n (by omega) (by omega) (by omega) (by rw [hiby]; omega)
    have HR := Lib.hid hrun
    have HZ := Lib.hid hz
    clear hrun hz hi0 hiz hisz hiby
    go_enter Tryd.func90, Tryd.ntmps90
    go_wp2_with (at_builtin; refine Lib.wpList_append_run _ rfl (.tmp 20) (.tmp 21) _ _ rfl _ _ rfl rfl _ _ (HR.out _) ?_)
    go_ret
    exact ⟨_, rfl, HZ.out, ((Below.refl _ w).drew).alloc (Nat.le_refl _) _⟩

theorem concat_any (v : Value) (vs : List Value) (xss : List (List (BitVec 8))) (w : World) (hv : SlL w v vs) (hl : vs.length = xss.length)
    (hs : ∀ j, j < vs.length → SlB w (vs.getD j undef) (xss.getD j [])) (ht : total xss ≤ 500000000) (hn : vs.length ≤ 1000000) :
    Calls Tryd.prog 63 #[v] w (RetB w xss.flatten) := by
  obtain ⟨a, n, cap, rfl, rfl, hcell⟩ : ∃ a n cap, v = .slice a n cap ∧ n = vs.length ∧ ∀ j, j < vs.length → ∃ b off, a = some ⟨b, off, none⟩ ∧ b < w.heap.size ∧ w.cell? ⟨b, off + j, none⟩ = some (vs.getD j undef) := by
    rcases hv with ⟨rfl, rfl⟩ | ⟨b, off, cap, rfl, _, _, hb, h4⟩
    · exact ⟨_, _, _, rfl, rfl, fun j hj => absurd hj (by simp)⟩
    · exact ⟨_, _, _, rfl, rfl, fun j hj => ⟨b, off, rfl, hb, h4 j hj⟩⟩
  clear hv
  have HS := Lib.hid hs
  have HL := Lib.hid hl
  have HC := Lib.hid hcell
  clear hs hl hcell
  go_enter Tryd.func63, Tryd.ntmps63
  go_wp2
  go_loop [3, 11] (fun z i => ∃ k : Nat, k ≤ vs.length ∧ i = .int .i64 k ∧ z = .int .i64 (total (xss.take k))) (fun _ i => vs.length - (intOf i).toNat)
  case atStart => exact ⟨0, Nat.zero_le _, rfl, rfl⟩
  case round =>
    obtain ⟨k, hk, rfl, rfl⟩ := hrel
    have hb := total_take_le xss k
    by_cases hlt : k < vs.length
    · obtain ⟨b, off, rfl, hbw, hc⟩ := HC.out k hlt
      obtain ⟨a', c', hv'⟩ := (HS.out k hlt).len
      rw [hv'] at hc
      have hT := total_take_succ xss k (by have := HL.out; omega)
      have hb' := total_take_le xss (k + 1)
      rw [hT] at hb'
      generalize (xss.getD k []).length = m at hc hT hb'
      have HT := Lib.hid hT
      clear hv' hT
      go_wp2
      go_round
      case rel => exact ⟨k + 1, by omega, by go_num, by rw [HT.out]; go_num⟩
      case measure => simp [intOf]; omega
    · obtain rfl : k = vs.length := by omega
      have hT : xss.take vs.length = xss := List.take_of_length_le (by have := HL.out; omega)
      rw [hT] at hb ⊢
      clear hT
      go_wp2_with (go_at_call 90; refine (grow_nil _ w (by omega) (by omega)).mono ?_; rintro e w1 ⟨v1, rfl, ho1, hb1⟩)
      go_loopw [6, 27] (fun s i wr => ∃ k : Nat, k ≤ vs.length ∧ i = .int .i64 k ∧ OwnB 5 w.heap.size wr s (xss.take k).flatten ∧ Below w.heap.size w wr) (fun _ i _ => vs.length - (intOf i).toNat)
      case atStart => exact ⟨0, Nat.zero_le _, rfl, ho1, hb1⟩
      case round =>
        obtain ⟨k, hk, rfl, hok, hbk⟩ := hrel
        by_cases hlt : k < vs.length
        · obtain ⟨b, off, rfl, hbw, hc0⟩ := HC.out k hlt
          have hsk := (HS.out k hlt).below hbk (Nat.le_refl _)
          have hc := (hbk.cell (p := ⟨b, off + k, none⟩) hbw).trans hc0
          have hT := total_take_succ xss k (by have := HL.out; omega)
          have hb' := total_take_le xss (k + 1)
          have HF := Lib.hid (flatten_take_succ xss k (by have := HL.out; omega))
          have hlen : (xss.take k).flatten.length + (xss.getD k []).length ≤ 500000000 := by unfold total at hT hb' ht; omega
          have hsz := hbk.size
          clear hT hb' hc0
          generalize vs.getD k undef = u at hc hsk
          generalize xss.getD k [] = ys at hsk HF hlen
          go_wp2_with (at_builtin; refine wpList_append_b rfl (.tmp 31) (.tmp 32) 22 5 rfl Tryd.underlying22 info_u8 w.heap.size _ _ hok rfl _ _ hsk rfl (by omega) hsz ?_; intro v' w' ho hg hn'; have hb2 := hbk.grown hg hsz (fun k e => (World.ownsRow.lt hok k e).1); clear hg hn' hok hbk hsk)
          go_roundw
          case rel => exact ⟨k + 1, by omega, by go_num, by rw [HF.out]; exact ho, hb2⟩
          case measure => simp [intOf]; omega
        · obtain rfl : k = vs.length := by omega
          have hT : xss.take vs.length = xss := List.take_of_length_le (by have := HL.out; omega)
          rw [hT] at hok
          clear hT
          go_wp2
          go_ret
          exact ⟨_, rfl, hok, hbk⟩

/-- Concat of four slices that lie in one block. -/
theorem concat4 (w : World) (b : Nat) (v1 v2 v3 v4 : Value) (x1 x2 x3 x4 : List (BitVec 8)) (t : TypeId) (fr : Nat × Nat) (h : w.heap[b]? = some (.cells #[v1, v2, v3, v4] t fr))
    (h1 : SlB w v1 x1) (h2 : SlB w v2 x2) (h3 : SlB w v3 x3) (h4 : SlB w v4 x4) (hl : x1.length + x2.length + x3.length + x4.length ≤ 500000000) :
    Calls Tryd.prog 63 #[.slice (some ⟨b, 0, none⟩) 4 4] w (RetB w (x1 ++ x2 ++ x3 ++ x4)) := by
  have hc := concat_any (.slice (some ⟨b, 0, none⟩) 4 4) [v1, v2, v3, v4] [x1, x2, x3, x4] w (.inr ⟨b, 0, 4, rfl, by simp, by unfold maxLen; omega, (Array.getElem?_eq_some_iff.1 h).1, ?_⟩) rfl ?_ ?_ (by simp)
  · simpa using hc
  · intro j hj
    rw [cell_of_row w b (0 + j) _ _ _ h]
    match j, hj with
    | 0, _ => rfl
    | 1, _ => rfl
    | 2, _ => rfl
    | 3, _ => rfl
  · intro j hj
    match j, hj with
    | 0, _ => exact h1
    | 1, _ => exact h2
    | 2, _ => exact h3
    | 3, _ => exact h4
  · simp [total]; omega
/-- Concat of two and of three. -/
theorem concat2 (w : World) (b : Nat) (v1 v2 : Value) (x1 x2 : List (BitVec 8)) (t : TypeId) (fr : Nat × Nat) (h : w.heap[b]? = some (.cells #[v1, v2] t fr))
    (h1 : SlB w v1 x1) (h2 : SlB w v2 x2) (hl : x1.length + x2.length ≤ 500000000) :
    Calls Tryd.prog 63 #[.slice (some ⟨b, 0, none⟩) 2 2] w (RetB w (x1 ++ x2)) := by
  have hc := concat_any (.slice (some ⟨b, 0, none⟩) 2 2) [v1, v2] [x1, x2] w (.inr ⟨b, 0, 2, rfl, by simp, by unfold maxLen; omega, (Array.getElem?_eq_some_iff.1 h).1, ?_⟩) rfl ?_ ?_ (by simp)
  · simpa using hc
  · intro j hj
    rw [cell_of_row w b (0 + j) _ _ _ h]
    match j, hj with
    | 0, _ => rfl
    | 1, _ => rfl
  · intro j hj
    match j, hj with
    | 0, _ => exact h1
    | 1, _ => exact h2
  · simp [total]; omega
end Go.Proofs.YtnoilogepkelaaaDoor
