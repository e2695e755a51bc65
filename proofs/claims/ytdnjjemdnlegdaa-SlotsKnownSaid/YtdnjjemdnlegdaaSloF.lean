/-
  Append, whole; All.
-/
import Derived.Test.YtdnjjemdnlegdaaSloE
namespace Go.Proofs.Ytdnjjemdnlegdaa
set_option linter.unusedVariables false
set_option linter.unusedSimpArgs false
open Go Go.RowKit

theorem LogAt.drewN {w : World} {q p g : Nat} {vt : Value} {vs : List Value} {l : Slo.L} (h : LogAt w q p g vt vs l) (m : Nat) : LogAt (w.drewN m) q p g vt vs l := h.below (Below.drewN (Below.refl _ w) m) (Nat.le_refl _)
/-- Append, whatever is told. -/
theorem slo_append {w : World} {q p g : Nat} {vt : Value} {vs : List Value} {l : Slo.L} {d : Dk.D} (h : LogAt w q p g vt vs l) (hD : DiskAt w p g d) (v : Value) (t : List (BitVec 8)) (hs : SlB w v t) (hap : Apart v t [p, g, q]) :
    Calls Try.prog 30 #[.pointer (some ⟨q, 0, none⟩), v] w (AppR w q p g vt vs l d t) := by
  obtain ⟨a, cap, rfl⟩ := hs.len
  have hK : ∀ m, Kept ([p, g, q] ++ vt.ownBlock.toList) w (w.drewN m) := fun m => (Kept.refl _ w).drewN m
  have hd : ∀ m, LogAt (w.drewN m) q p g vt vs l := h.drewN
  by_cases h1 : (l.dead || d.off) = true
  · have e : Slo.append d l t = (d, l, 12) := by unfold Slo.append; rw [if_pos h1]
    refine (slo_append_off h hD _ h1).mono ?_
    rintro x w' ⟨rfl, rfl⟩
    unfold AppR
    rw [e]
    exact ⟨rfl, hD, ⟨vt, vs, h, fun k hk => .inl hk, Older.refl _ _⟩, Kept.refl _ w⟩
  · have h1' : l.dead = false ∧ d.off = false := by simpa using h1
    by_cases h2 : 262144 < t.length
    · have e : Slo.append d l t = (d, l, 3) := by unfold Slo.append; rw [if_neg h1, if_pos h2]
      refine (slo_append_long h hD a t.length cap h1'.1 h1'.2 h2).mono ?_
      rintro x w' ⟨rfl, rfl⟩
      unfold AppR
      rw [e]
      exact ⟨rfl, hD, ⟨vt, vs, h, fun k hk => .inl hk, Older.refl _ _⟩, Kept.refl _ w⟩
    · by_cases h3 : l.sectors - l.used < Slo.taken t.length
      · have e : Slo.append d l t = (d, l, 7) := by unfold Slo.append; rw [if_neg h1, if_neg h2, if_pos h3]
        refine (slo_append_full h hD a t.length cap h1'.1 h1'.2 (by omega) h3).mono ?_
        rintro x w' ⟨rfl, m, rfl⟩
        unfold AppR
        rw [e]
        exact ⟨rfl, hD.drewN m, ⟨vt, vs, hd m, fun k hk => .inl hk, Older.refl _ _⟩, hK m⟩
      · exact slo_append_go h hD a t.length cap t hs rfl hap h1'.1 h1'.2 (by omega) (by omega)
end Go.Proofs.Ytdnjjemdnlegdaa
