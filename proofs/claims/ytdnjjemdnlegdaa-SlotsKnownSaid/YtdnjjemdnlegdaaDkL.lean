/-
  A disk in plain Lean: what a write comes to, byte by byte. No program in sight.
-/
import Derived.Test.YtdnjjemdnlegdaaDkS
namespace Go.Proofs.Ytdnjjemdnlegdaa.Dk
set_option linter.unusedVariables false
set_option linter.unusedSimpArgs false
open Go

theorem splice_getD (L cs : List (BitVec 8)) (o j : Nat) (h : o + cs.length ≤ L.length) :
    (splice L o cs).getD j 0 = if o ≤ j ∧ j < o + cs.length then cs.getD (j - o) 0 else L.getD j 0 := by
  unfold splice
  simp only [List.getD]
  by_cases h1 : j < o
  · rw [if_neg (by omega), List.getElem?_append_left (by simp; omega), List.getElem?_take, if_pos h1]
  · rw [List.getElem?_append_right (by simp; omega), List.length_take, Nat.min_eq_left (by omega)]
    by_cases h2 : j < o + cs.length
    · rw [if_pos ⟨by omega, h2⟩, List.getElem?_append_left (by omega)]
    · rw [if_neg (by omega), List.getElem?_append_right (by omega), List.getElem?_drop, show o + cs.length + (j - o - cs.length) = j by omega]
theorem sect_getD (b : List (BitVec 8)) (k j : Nat) (h : j < 128) : (sect b k).getD j 0 = b.getD (128 * k + j) 0 := by
  simp only [sect, List.getD, List.getElem?_take, List.getElem?_drop, if_pos h]
theorem tornL_getD (mask to fr : List (BitVec 8)) (j : Nat) (h : j < 128) : (tornL mask to fr).getD j 0 = if bit mask j = true then fr.getD j 0 else to.getD j 0 := by
  simp [tornL, List.getD, List.getElem?_map, List.getElem?_range h]

/-- Is byte j of the sectors that are written (from number i on, with so many whole ones left) written? -/
def hit (left : Int) (mask : List (BitVec 8)) (i j : Nat) : Bool :=
  decide (left < 0) || decide ((j / 128 : Nat) < (i : Int) + left) || (decide (((j / 128 : Nat) : Int) = i + left) && bit mask (j % 128))

theorem ext_getD {xs ys : List (BitVec 8)} (hl : xs.length = ys.length) (h : ∀ j, j < xs.length → xs.getD j 0 = ys.getD j 0) : xs = ys := by
  apply List.ext_getElem? 
  intro j
  by_cases hj : j < xs.length
  · have := h j hj
    rw [List.getElem?_eq_getElem hj, List.getElem?_eq_getElem (by omega)]
    simpa [List.getD, hj, show j < ys.length by omega] using this
  · rw [List.getElem?_eq_none (by omega), List.getElem?_eq_none (by omega)]

theorem wstep_getD (d : D) (at_ : Nat) (xs : List (BitVec 8)) (i n j : Nat) (hx : xs.length = n * 128) (hi : i < n) (ha : (at_ + n) * 128 ≤ d.b.length) :
    (wstep d at_ xs i).b.getD j 0 = if j / 128 = at_ + i then xs.getD (j - 128 * at_) 0 else d.b.getD j 0 := by
  have hs := sect_length xs i n hx hi
  rw [show (wstep d at_ xs i).b = splice d.b (128 * (at_ + i)) (sect xs i) from rfl, splice_getD _ _ _ _ (by omega), hs]
  by_cases h : j / 128 = at_ + i
  · rw [if_pos (by omega), if_pos h, sect_getD _ _ _ (by omega), show 128 * i + (j - 128 * (at_ + i)) = j - 128 * at_ by omega]
  · rw [if_neg (by omega), if_neg h]
theorem tear_getD (d : D) (at_ : Nat) (xs : List (BitVec 8)) (i n j : Nat) (hx : xs.length = n * 128) (hi : i < n) (ha : (at_ + n) * 128 ≤ d.b.length) :
    (tear d at_ xs i).b.getD j 0 = if j / 128 = at_ + i ∧ bit d.mask (j % 128) = true then xs.getD (j - 128 * at_) 0 else d.b.getD j 0 := by
  rw [show (tear d at_ xs i).b = splice d.b (128 * (at_ + i)) (tornL d.mask (sect d.b (at_ + i)) (sect xs i)) from rfl, splice_getD _ _ _ _ (by rw [tornL_length]; omega), tornL_length]
  by_cases h : j / 128 = at_ + i
  · rw [if_pos (by omega), tornL_getD _ _ _ _ (by omega), sect_getD _ _ _ (by omega), sect_getD _ _ _ (by omega), show 128 * i + (j - 128 * (at_ + i)) = j - 128 * at_ by omega,
      show 128 * (at_ + i) + (j - 128 * (at_ + i)) = j by omega, show j - 128 * (at_ + i) = j % 128 by omega]
    simp [h]
  · rw [if_neg (by omega), if_neg (fun hh => h hh.1)]

/-- What a write comes to: its bytes, its answer, its power. -/
theorem run_getD (at_ : Nat) (xs : List (BitVec 8)) (n : Nat) (hx : xs.length = n * 128) : ∀ (m i : Nat) (d : D), m + i = n → (at_ + n) * 128 ≤ d.b.length → -1 ≤ d.left →
    (∀ j, (run at_ xs m i d).1.b.getD j 0 = if at_ + i ≤ j / 128 ∧ j / 128 < at_ + n ∧ hit d.left d.mask (at_ + i) j = true then xs.getD (j - 128 * at_) 0 else d.b.getD j 0) ∧
    (run at_ xs m i d).2 = (if 0 ≤ d.left ∧ d.left < m then 12 else 0) ∧ (run at_ xs m i d).1.off = (if 0 ≤ d.left ∧ d.left < m then true else d.off) ∧
    (run at_ xs m i d).1.left = (if 0 ≤ d.left ∧ d.left < m then -1 else max (d.left - m) (-1)) ∧ (run at_ xs m i d).1.mask = d.mask
  | 0, i, d, hm, ha, h0 => by
    refine ⟨fun j => ?_, ?_, ?_, ?_, rfl⟩
    · rw [if_neg (by omega)]; rfl
    · rw [if_neg (by omega)]; rfl
    · rw [if_neg (by omega)]; rfl
    · rw [if_neg (by omega)]
      show d.left = _
      omega
  | m + 1, i, d, hm, ha, h0 => by
    unfold run
    by_cases hl : d.left = 0
    · rw [if_pos hl]
      refine ⟨fun j => ?_, ?_, ?_, ?_, rfl⟩
      · rw [tear_getD d at_ xs i n j hx (by omega) ha]
        by_cases h : j / 128 = at_ + i ∧ bit d.mask (j % 128) = true
        · rw [if_pos h, if_pos ⟨by omega, by omega, by simp [hit, hl, h.1, h.2]⟩]
        · rw [if_neg h, if_neg]
          rintro ⟨h1, h2, h3⟩
          simp only [hit, hl, Bool.or_eq_true, Bool.and_eq_true, decide_eq_true_eq] at h3
          rcases h3 with (h3 | h3) | h3
          · omega
          · omega
          · exact h ⟨by omega, h3.2⟩
      · rw [if_pos (by omega)]
      · rw [if_pos (by omega)]; rfl
      · rw [if_pos (by omega)]; rfl
    · rw [if_neg hl]
      have hw := wstep_len (d := d) at_ xs i n hx (by omega) ha
      obtain ⟨g1, g2, g3, g4, g5⟩ := run_getD at_ xs n hx m (i + 1) (wstep d at_ xs i) (by omega) (by rw [hw]; exact ha) (by simp [wstep]; omega)
      have e1 : (wstep d at_ xs i).left = max (d.left - 1) (-1) := rfl
      have e2 : (wstep d at_ xs i).mask = d.mask := rfl
      have e3 : (wstep d at_ xs i).off = d.off := rfl
      rw [e1] at g1 g2 g3 g4
      rw [e2] at g1 g5
      rw [e3] at g3
      have ec : (0 ≤ max (d.left - 1) (-1) ∧ max (d.left - 1) (-1) < (m : Int)) ↔ (0 ≤ d.left ∧ d.left < ((m + 1 : Nat) : Int)) := by omega
      refine ⟨fun j => ?_, ?_, ?_, ?_, g5⟩
      · rw [g1, wstep_getD d at_ xs i n j hx (by omega) ha]
        by_cases h : j / 128 = at_ + i
        · have hh : hit d.left d.mask (at_ + i) j = true := by
            simp only [hit, h, Bool.or_eq_true, Bool.and_eq_true, decide_eq_true_eq]
            by_cases h5 : d.left < 0
            · exact .inl (.inl h5)
            · exact .inl (.inr (by omega))
          rw [if_neg (by omega), if_pos h, if_pos ⟨by omega, by omega, hh⟩]
        · rw [if_neg h]
          by_cases h2 : at_ + (i + 1) ≤ j / 128 ∧ j / 128 < at_ + n
          · have eh : hit (max (d.left - 1) (-1)) d.mask (at_ + (i + 1)) j = hit d.left d.mask (at_ + i) j := by
              unfold hit
              by_cases h5 : d.left < 0
              · rw [show max (d.left - 1) (-1) = -1 by omega]
                simp [h5]
              · rw [show max (d.left - 1) (-1) = d.left - 1 by omega, show decide (d.left - 1 < 0) = decide (d.left < 0) by simp; omega,
                  show ((at_ + (i + 1) : Nat) : Int) + (d.left - 1) = ((at_ + i : Nat) : Int) + d.left by omega]
            rw [eh]
            by_cases h3 : hit d.left d.mask (at_ + i) j = true
            · rw [if_pos ⟨h2.1, h2.2, h3⟩, if_pos ⟨by omega, h2.2, h3⟩]
            · rw [if_neg (fun hh => h3 hh.2.2), if_neg (fun hh => h3 hh.2.2)]
          · rw [if_neg (fun hh => h2 ⟨hh.1, hh.2.1⟩), if_neg (fun hh => h2 ⟨by omega, hh.2.1⟩)]
      · rw [g2]
        by_cases hc : 0 ≤ d.left ∧ d.left < ((m + 1 : Nat) : Int)
        · rw [if_pos hc, if_pos (ec.2 hc)]
        · rw [if_neg hc, if_neg (fun hh => hc (ec.1 hh))]
      · rw [g3]
        by_cases hc : 0 ≤ d.left ∧ d.left < ((m + 1 : Nat) : Int)
        · rw [if_pos hc, if_pos (ec.2 hc)]
        · rw [if_neg hc, if_neg (fun hh => hc (ec.1 hh))]
      · rw [g4]
        by_cases hc : 0 ≤ d.left ∧ d.left < ((m + 1 : Nat) : Int)
        · rw [if_pos hc, if_pos (ec.2 hc)]
        · rw [if_neg hc, if_neg (fun hh => hc (ec.1 hh))]
          omega
end Go.Proofs.Ytdnjjemdnlegdaa.Dk
