/-
  A counter's step that a cut meets, and one without power.
-/
import Derived.Test.YtdnjjemdnlegdaaEr1
namespace Go.Proofs.Ytdnjjemdnlegdaa
set_option linter.unusedVariables false
set_option linter.unusedSimpArgs false
open Go Go.RowKit

theorem Ep.step_torn {d : Dk.D} {fr n v : Nat} (h : Ep.At d fr n v) (hd : Dk.Ok d) (hv : v < 128 * n) (ho : d.off = false) (hl : d.left = 0) :
    (Dk.write d ((fr + v / 128 : Nat) : Int) (Ep.sector v)).2 = 12 ∧ (Dk.write d ((fr + v / 128 : Nat) : Int) (Ep.sector v)).1.off = true ∧
    (Ep.At (Dk.write d ((fr + v / 128 : Nat) : Int) (Ep.sector v)).1 fr n v ∨ Ep.At (Dk.write d ((fr + v / 128 : Nat) : Int) (Ep.sector v)).1 fr n (v + 1)) := by
  have hf := h.fit
  obtain ⟨g1, g2, g3, g4, g5⟩ := Ep.wr_one d (fr + v / 128) (Ep.sector v) (Ep.sector_length v) (by omega) ho (by omega)
  have hlen := (Dk.write_ok hd ((fr + v / 128 : Nat) : Int) (Ep.sector v)).2
  refine ⟨by rw [g2, if_pos hl], by rw [g3, if_pos hl], ?_⟩
  rw [hl] at g1
  cases hb : Dk.bit d.mask (v % 128) with
  | false =>
    refine .inl ⟨by rw [hlen]; exact hf, by omega, fun j hj => ?_⟩
    rw [g1]
    by_cases hjk : (128 * fr + j) / 128 = fr + v / 128
    · rw [Ep.hit_torn _ _ _ hjk]
      cases hc : Dk.bit d.mask ((128 * fr + j) % 128) with
      | false => rw [if_neg (by simp)]; exact h.get j hj
      | true =>
        rw [if_pos ⟨hjk, rfl⟩, Ep.sector_getD _ _ (by omega)]
        have hne : j ≠ v := by rintro rfl; rw [show (128 * fr + j) % 128 = j % 128 by omega, hb] at hc; cases hc
        by_cases hlt : j < v
        · rw [if_pos (by omega), if_pos hlt]
        · rw [if_neg (by omega), if_neg hlt]
    · rw [if_neg (fun hh => hjk hh.1)]
      exact h.get j hj
  | true =>
    refine .inr ⟨by rw [hlen]; exact hf, by omega, fun j hj => ?_⟩
    rw [g1]
    by_cases hjk : (128 * fr + j) / 128 = fr + v / 128
    · rw [Ep.hit_torn _ _ _ hjk]
      cases hc : Dk.bit d.mask ((128 * fr + j) % 128) with
      | false =>
        rw [if_neg (by simp), h.get j hj]
        have hne : j ≠ v := by rintro rfl; rw [show (128 * fr + j) % 128 = j % 128 by omega, hb] at hc; cases hc
        by_cases hlt : j < v
        · rw [if_pos hlt, if_pos (by omega)]
        · rw [if_neg hlt, if_neg (by omega)]
      | true =>
        rw [if_pos ⟨hjk, rfl⟩, Ep.sector_getD _ _ (by omega)]
        by_cases hlt : j < v + 1
        · rw [if_pos (by omega), if_pos hlt]
        · rw [if_neg (by omega), if_neg hlt]
    · rw [if_neg (fun hh => hjk hh.1), h.get j hj]
      by_cases hlt : j < v
      · rw [if_pos hlt, if_pos (by omega)]
      · rw [if_neg hlt, if_neg (by omega)]

theorem ep_next_torn {w : World} {p g c : Nat} {d : Dk.D} (hD : DiskAt w p g d) (fr n v : Nat) (hA : Ep.At d fr n v) (ho : d.off = false) (hl : d.left = 0) (hC : CtrAt w c p (fr : Int) ((128 * n : Nat) : Int) (v : Int)) (hv : v < 128 * n) (hcp : c ≠ p) (hcg : c ≠ g) :
    Calls Try.prog 42 #[.pointer (some ⟨c, 0, none⟩)] w fun e w' => e = .returned (.int .i64 12) ∧
      ∃ d', DiskAt w' p g d' ∧ (Ep.At d' fr n v ∨ Ep.At d' fr n (v + 1)) ∧ d'.off = true ∧ CtrAt w' c p (fr : Int) ((128 * n : Nat) : Int) (v : Int) ∧ Kept [p, g, c] w w' := by
  have hp := hD.pos
  have hf := hA.fit
  have e : (fr : Int) + ((v / 128 : Nat) : Int) = ((fr + v / 128 : Nat) : Int) := by omega
  refine (ep_next hD (fr : Int) ((128 * n : Nat) : Int) v hC (by omega) hcp hcg (by omega) (by omega) (by omega)).mono ?_
  rintro e' w' ⟨rfl, h1, h2, h3⟩
  rw [e] at h1 h2 ⊢
  obtain ⟨g1, g2, g3⟩ := Ep.step_torn hA hD.ok hv ho hl
  refine ⟨by rw [g1], _, h1, g3, g2, ?_, h3⟩
  unfold CtrR at h2
  rw [if_neg (by rw [g1]; decide)] at h2
  exact h2
theorem ep_next_off {w : World} {p g c : Nat} {d : Dk.D} (hD : DiskAt w p g d) (fr n v : Nat) (hf : (fr + n) * 128 ≤ d.b.length) (ho : d.off = true) (hC : CtrAt w c p (fr : Int) ((128 * n : Nat) : Int) (v : Int)) (hv : v < 128 * n) (hcp : c ≠ p) (hcg : c ≠ g) :
    Calls Try.prog 42 #[.pointer (some ⟨c, 0, none⟩)] w fun e w' => e = .returned (.int .i64 12) ∧
      DiskAt w' p g d ∧ CtrAt w' c p (fr : Int) ((128 * n : Nat) : Int) (v : Int) ∧ Kept [p, g, c] w w' := by
  have hp := hD.pos
  have e : (fr : Int) + ((v / 128 : Nat) : Int) = ((fr + v / 128 : Nat) : Int) := by omega
  have hw : Dk.write d ((fr + v / 128 : Nat) : Int) (Ep.sector v) = (d, 12) := by
    have hm : Dk.may d ((fr + v / 128 : Nat) : Int) (((Ep.sector v).length / 128 : Nat) : Int) = 12 := by
      unfold Dk.may
      rw [if_pos ((Dk.has_iff _ _ _).2 ⟨by omega, by omega, by omega, by rw [Ep.sector_length]; omega⟩), if_pos ho]
    unfold Dk.write
    rw [if_neg (by rw [Ep.sector_length]; omega), if_pos (by rw [hm]; decide), hm]
  refine (ep_next hD (fr : Int) ((128 * n : Nat) : Int) v hC (by omega) hcp hcg (by omega) (by omega) (by omega)).mono ?_
  rintro e' w' ⟨rfl, h1, h2, h3⟩
  rw [e, hw] at h1 h2
  rw [e, hw]
  unfold CtrR at h2
  rw [if_neg (by simp)] at h2
  exact ⟨rfl, h1, h2, h3⟩
end Go.Proofs.Ytdnjjemdnlegdaa
