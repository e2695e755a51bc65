/-
  A counter on a disk in plain Lean: what a step comes to. No program in sight.
-/
import Derived.Test.YtdnjjemdnlegdaaEpS
namespace Go.Proofs.Ytdnjjemdnlegdaa.Ep
set_option linter.unusedVariables false
set_option linter.unusedSimpArgs false
open Go Go.Proofs.Ytdnjjemdnlegdaa

/-- So many sectors of a disk, from one on, tell v. -/
structure At (d : Dk.D) (fr n v : Nat) : Prop where
  fit : (fr + n) * 128 ≤ d.b.length
  le : v ≤ 128 * n
  get : ∀ j, j < 128 * n → d.b.getD (128 * fr + j) 0 = if j < v then 1 else 0

theorem read_ok (d : Dk.D) (fr n : Nat) (hf : (fr + n) * 128 ≤ d.b.length) (ho : d.off = false) : Dk.read d (fr : Int) (n : Int) = ((d.b.drop (128 * fr)).take (128 * n), 0) := by
  have hm : Dk.may d (fr : Int) (n : Int) = 0 := (Dk.may_zero _ _ _).2 ⟨⟨by omega, by omega, by omega⟩, ho⟩
  unfold Dk.read
  rw [if_neg (by omega)]
  rfl
theorem read_getD (d : Dk.D) (fr n j : Nat) (hj : j < 128 * n) : ((d.b.drop (128 * fr)).take (128 * n)).getD j 0 = d.b.getD (128 * fr + j) 0 := by
  simp [List.getD, List.getElem?_take, List.getElem?_drop, hj]
theorem read_len (d : Dk.D) (fr n : Nat) (hf : (fr + n) * 128 ≤ d.b.length) : ((d.b.drop (128 * fr)).take (128 * n)).length = 128 * n := by
  rw [List.length_take, List.length_drop]; omega
theorem At.tells {d : Dk.D} {fr n v : Nat} (h : At d fr n v) (ho : d.off = false) : (Dk.read d (fr : Int) (n : Int)).2 = 0 ∧ Tells (Dk.read d (fr : Int) (n : Int)).1 v ∧ (Dk.read d (fr : Int) (n : Int)).1.length = 128 * n := by
  rw [read_ok d fr n h.fit ho]
  refine ⟨rfl, ⟨by rw [read_len d fr n h.fit]; exact h.le, fun j hj => ?_, fun j h1 h2 => ?_⟩, read_len d fr n h.fit⟩
  · rw [read_getD d fr n j (by have := h.le; omega), h.get j (by have := h.le; omega), if_pos hj]
  · rw [read_len d fr n h.fit] at h2
    rw [read_getD d fr n j h2, h.get j h2, if_neg (by omega)]
theorem at_of_tells {d : Dk.D} {fr n v : Nat} (hf : (fr + n) * 128 ≤ d.b.length) (ho : d.off = false) (h : Tells (Dk.read d (fr : Int) (n : Int)).1 v) : At d fr n v := by
  rw [read_ok d fr n hf ho] at h
  have hl := read_len d fr n hf
  refine ⟨hf, by rw [← hl]; exact h.1, fun j hj => ?_⟩
  rw [← read_getD d fr n j hj]
  by_cases hv : j < v
  · rw [if_pos hv, h.2.1 j hv]
  · rw [if_neg hv, h.2.2 j (by omega) (by rw [hl]; exact hj)]
/-- One sector is written. -/
theorem wr_one (d : Dk.D) (k : Nat) (xs : List (BitVec 8)) (hx : xs.length = 128) (hl : (k + 1) * 128 ≤ d.b.length) (ho : d.off = false) (h0 : -1 ≤ d.left) :
    (∀ j, (Dk.write d (k : Int) xs).1.b.getD j 0 = if j / 128 = k ∧ Dk.hit d.left d.mask k j = true then xs.getD (j - 128 * k) 0 else d.b.getD j 0) ∧
    (Dk.write d (k : Int) xs).2 = (if d.left = 0 then 12 else 0) ∧ (Dk.write d (k : Int) xs).1.off = (if d.left = 0 then true else false) ∧ (Dk.write d (k : Int) xs).1.left = max (d.left - 1) (-1) ∧
    (Dk.write d (k : Int) xs).1.mask = d.mask := by
  have hm : Dk.may d (k : Int) ((xs.length / 128 : Nat) : Int) = 0 := (Dk.may_zero _ _ _).2 ⟨⟨by omega, by omega, by omega⟩, ho⟩
  have hw : Dk.write d (k : Int) xs = Dk.run k xs 1 0 d := by
    unfold Dk.write
    rw [if_neg (by omega), if_neg (by omega), Int.toNat_natCast, show xs.length / 128 = 1 by omega]
  rw [hw]
  obtain ⟨g1, g2, g3, g4, g5⟩ := Dk.run_getD k xs 1 (by omega) 1 0 d (by omega) (by omega) h0
  refine ⟨fun j => ?_, ?_, ?_, ?_, g5⟩
  · rw [g1]
    have e : (k + 0 ≤ j / 128 ∧ j / 128 < k + 1 ∧ Dk.hit d.left d.mask (k + 0) j = true) ↔ (j / 128 = k ∧ Dk.hit d.left d.mask k j = true) := by
      rw [Nat.add_zero]
      constructor
      · rintro ⟨a, b, c⟩; exact ⟨by omega, c⟩
      · rintro ⟨a, b⟩; exact ⟨by omega, by omega, b⟩
    by_cases h : j / 128 = k ∧ Dk.hit d.left d.mask k j = true
    · rw [if_pos h, if_pos (e.2 h)]
    · rw [if_neg h, if_neg (fun hh => h (e.1 hh))]
  · rw [g2]
    by_cases h : d.left = 0
    · rw [if_pos h, if_pos (by omega)]
    · rw [if_neg h, if_neg (by omega)]
  · rw [g3]
    by_cases h : d.left = 0
    · rw [if_pos h, if_pos (by omega)]
    · rw [if_neg h, if_neg (by omega), ho]
  · rw [g4]
    by_cases h : d.left = 0
    · rw [if_pos (by omega)]; omega
    · rw [if_neg (by omega)]; omega
theorem hit_whole (left : Int) (mask : List (BitVec 8)) (k j : Nat) (h : left ≠ 0) (h0 : -1 ≤ left) (hj : j / 128 = k) : Dk.hit left mask k j = true := by
  simp only [Dk.hit, Bool.or_eq_true, Bool.and_eq_true, decide_eq_true_eq]
  by_cases h1 : left < 0
  · exact .inl (.inl h1)
  · exact .inl (.inr (by omega))
theorem hit_torn (mask : List (BitVec 8)) (k j : Nat) (hj : j / 128 = k) : Dk.hit 0 mask k j = Dk.bit mask (j % 128) := by
  simp [Dk.hit, hj]

/-- A step that no cut meets. -/
theorem step_whole {d : Dk.D} {fr n v : Nat} (h : At d fr n v) (hv : v < 128 * n) (ho : d.off = false) (h0 : -1 ≤ d.left) (hl : d.left ≠ 0) :
    (Dk.write d ((fr + v / 128 : Nat) : Int) (sector v)).2 = 0 ∧ At (Dk.write d ((fr + v / 128 : Nat) : Int) (sector v)).1 fr n (v + 1) ∧ (Dk.write d ((fr + v / 128 : Nat) : Int) (sector v)).1.off = false ∧
    (Dk.write d ((fr + v / 128 : Nat) : Int) (sector v)).1.left = max (d.left - 1) (-1) ∧ (Dk.write d ((fr + v / 128 : Nat) : Int) (sector v)).1.mask = d.mask ∧
    ∀ j, j / 128 ≠ fr + v / 128 → (Dk.write d ((fr + v / 128 : Nat) : Int) (sector v)).1.b.getD j 0 = d.b.getD j 0 := by
  have hf := h.fit
  obtain ⟨g1, g2, g3, g4, g5⟩ := wr_one d (fr + v / 128) (sector v) (sector_length v) (by omega) ho h0
  have hlen : (Dk.write d ((fr + v / 128 : Nat) : Int) (sector v)).1.b.length = d.b.length := by
    have hm : Dk.may d ((fr + v / 128 : Nat) : Int) (((sector v).length / 128 : Nat) : Int) = 0 := (Dk.may_zero _ _ _).2 ⟨⟨by omega, by omega, by rw [sector_length]; omega⟩, ho⟩
    unfold Dk.write
    rw [if_neg (by rw [sector_length]; omega), if_neg (by omega), Int.toNat_natCast, show (sector v).length / 128 = 1 by rw [sector_length]]
    unfold Dk.run
    rw [if_neg hl]
    exact Dk.wstep_len _ _ 0 1 (by rw [sector_length]) (by omega) (by omega)
  refine ⟨by rw [g2, if_neg hl], ⟨by rw [hlen]; exact hf, by omega, fun j hj => ?_⟩, by rw [g3, if_neg hl], g4, g5, fun j hj => by rw [g1, if_neg (fun hh => hj hh.1)]⟩
  rw [g1]
  by_cases hjk : (128 * fr + j) / 128 = fr + v / 128
  · rw [if_pos ⟨hjk, hit_whole _ _ _ _ hl h0 hjk⟩, sector_getD _ _ (by omega)]
    by_cases hlt : j < v + 1
    · rw [if_pos (by omega), if_pos hlt]
    · rw [if_neg (by omega), if_neg hlt]
  · rw [if_neg (fun hh => hjk hh.1), h.get j hj]
    by_cases hlt : j < v
    · rw [if_pos hlt, if_pos (by omega)]
    · rw [if_neg hlt, if_neg (by omega)]
/-- Other sectors stay. -/
theorem At.other {d d' : Dk.D} {fr n v : Nat} (h : At d fr n v) (hl : d'.b.length = d.b.length) (k : Nat) (hk : k < fr ∨ fr + n ≤ k) (hj : ∀ j, j / 128 ≠ k → d'.b.getD j 0 = d.b.getD j 0) : At d' fr n v :=
  ⟨by rw [hl]; exact h.fit, h.le, fun j hjn => by rw [hj _ (by omega)]; exact h.get j hjn⟩
theorem at_fresh (N fr n : Nat) (h : fr + n ≤ N) : At (Dk.fresh N) fr n 0 := by
  refine ⟨by simp [Dk.fresh]; omega, by omega, fun j hj => ?_⟩
  rw [if_neg (by omega)]
  simp [Dk.fresh, List.getD, List.getElem?_replicate]
  split <;> rfl
end Go.Proofs.Ytdnjjemdnlegdaa.Ep
