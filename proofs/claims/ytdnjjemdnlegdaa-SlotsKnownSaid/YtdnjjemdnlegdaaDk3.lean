/-
  The disk's calls Put, Cut, Copy.
-/
import Derived.Test.YtdnjjemdnlegdaaDk2
namespace Go.Proofs.Ytdnjjemdnlegdaa
set_option linter.unusedVariables false
set_option linter.unusedSimpArgs false
open Go Go.RowKit

/-- A slice that lies apart from a block (or has no bytes). -/
def Apart (v : Value) (xs : List (BitVec 8)) (l : List Nat) : Prop := xs ≠ [] → ∀ k, v.ownBlock = some k → k ∉ l

set_option maxRecDepth 100000 in
set_option maxHeartbeats 1000000 in
theorem dk_put {w : World} {p g : Nat} {d : Dk.D} (h : DiskAt w p g d) (at_ : Int) (v : Value) (xs : List (BitVec 8)) (hs : SlB w v xs) (hl : xs.length ≤ 1000000000) (ha0 : -9223372036854775808 ≤ at_) (ha1 : at_ ≤ 9223372036854775807) :
    Calls Try.prog 16 #[.pointer (some ⟨p, 0, none⟩), .int .i64 at_, v] w fun e w' => e = .returned (.int .i64 (Dk.putAt d at_ xs).2) ∧ DiskAt w' p g (Dk.putAt d at_ xs).1 ∧ Kept [p, g] w w' := by
  have c0 := h.c0
  have hp := h.pos
  have hcp := h.caps
  have HC := Lib.hid (dk_is h)
  obtain ⟨a, cap, hv⟩ := hs.len
  have HP := Lib.hid (show Dk.putAt d at_ xs = if at_ < 0 ∨ (d.b.length : Int) < at_ ∨ (d.b.length : Int) - at_ < xs.length then (d, 2) else ({ d with b := splice d.b at_.toNat xs }, 0) from rfl)
  generalize hr : Dk.putAt d at_ xs = r at HP ⊢
  clear hr
  by_cases hc : at_ < 0 ∨ (d.b.length : Int) < at_ ∨ (d.b.length : Int) - at_ < xs.length
  · obtain rfl : r = (d, 2) := by rw [HP.out, if_pos hc]
    clear HP
    subst hv
    clear hs
    have HD := Lib.hid h
    generalize d.cap = c at *
    generalize d.b.length = m at *
    generalize xs.length = k at *
    by_cases h1 : at_ < 0
    · clear hc
      go_enter Try.func16, Try.ntmps16
      go_wp2_with (go_at_call 47; refine HC.out.mono ?_; rintro e w' ⟨rfl, rfl⟩)
      go_ret
      exact ⟨rfl, HD.out, Kept.refl _ _⟩
    · by_cases h2 : (m : Int) < at_
      · clear hc
        go_enter Try.func16, Try.ntmps16
        go_wp2_with (go_at_call 47; refine HC.out.mono ?_; rintro e w' ⟨rfl, rfl⟩)
        go_ret
        exact ⟨rfl, HD.out, Kept.refl _ _⟩
      · have h3 : (m : Int) - at_ < k := by omega
        clear hc
        go_enter Try.func16, Try.ntmps16
        go_wp2_with (go_at_call 47; refine HC.out.mono ?_; rintro e w' ⟨rfl, rfl⟩)
        go_ret
        exact ⟨rfl, HD.out, Kept.refl _ _⟩
  · obtain rfl : r = ({ d with b := splice d.b at_.toNat xs }, 0) := by rw [HP.out, if_neg hc]
    clear HP
    obtain ⟨n, rfl⟩ := Int.eq_ofNat_of_zero_le (show 0 ≤ at_ by omega)
    have h1 : (n : Int) ≤ d.b.length := by omega
    have h2 : (xs.length : Int) ≤ (d.b.length : Int) - n := by omega
    clear hc
    have hsp : splice d.b n (xs.take (d.b.length - n)) = splice d.b n xs := by rw [List.take_of_length_le (by omega)]
    have HF := Lib.hid (h.setData (splice d.b n xs) (Dk.splice_length _ _ _ (by omega)))
    have hg := h.data
    by_cases he : d.cap = n
    · have hx : xs = [] := List.eq_nil_of_length_eq_zero (by omega)
      have HSP := Lib.hid (show ∀ m, splice d.b 0 (xs.take m) = splice d.b n xs by intro m; subst hx; simp [splice])
      have HG := Lib.hid hg
      have HV := Lib.hid hs
      have hk : xs.length = 0 := by omega
      have hb : d.b.length = n := by omega
      have HM := Lib.hid (show 0 + 0 ≤ d.b.length by omega)
      subst hv
      rw [hk] at HV ⊢
      rw [he, hb] at c0
      clear hs hsp hg hx hk h h1 h2 hl ha0 ha1 hb he hcp hp
      generalize d.b = L at *
      go_enter Try.func16, Try.ntmps16
      go_wp2_with (first | (go_at_call 47; refine HC.out.mono ?_; rintro e w' ⟨rfl, rfl⟩) | (refine wpList_copy_b rfl (.tmp 40) (.tmp 41) 22 5 rfl Try.underlying22 (by kernel_rfl) g 0 0 0 (.slice a 0 cap) xs rfl rfl HV.out L d.rest 5 HG.out HM.out ?_; rw [HSP.out]))
      go_ret
      exact ⟨rfl, HF.out, (Kept.refl _ _).setRow (by simp) _⟩
    · have HG := Lib.hid hg
      have HV := Lib.hid hs
      have HSP := Lib.hid hsp
      subst hv
      clear hs hsp hg h ha0 ha1
      generalize d.b = L at *
      generalize d.cap = c at *
      have hlt : (n : Int) < c := by omega
      obtain ⟨m, hm⟩ : ∃ m, m = L.length := ⟨_, rfl⟩
      have HM := Lib.hid (show n + (m - n) ≤ L.length by omega)
      rw [← hm] at c0 hp h1 h2 HSP hcp
      clear hm
      generalize xs.length = k at *
      go_enter Try.func16, Try.ntmps16
      go_wp2_with (first | (go_at_call 47; refine HC.out.mono ?_; rintro e w' ⟨rfl, rfl⟩) | (refine wpList_copy_b rfl (.tmp 40) (.tmp 41) 22 5 rfl Try.underlying22 (by kernel_rfl) g n (m - n) (c - n) (.slice a k cap) xs rfl rfl HV.out L d.rest 5 HG.out HM.out ?_; rw [HSP.out]))
      go_ret
      exact ⟨rfl, HF.out, (Kept.refl _ _).setRow (by simp) _⟩
end Go.Proofs.Ytdnjjemdnlegdaa
