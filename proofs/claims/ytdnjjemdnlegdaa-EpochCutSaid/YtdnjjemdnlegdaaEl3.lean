/-
  The law EpochCut: its walk.
-/
import Derived.Test.YtdnjjemdnlegdaaEp5
import Derived.Deep.MidRow
namespace Go.Proofs.Ytdnjjemdnlegdaa
set_option linter.unusedVariables false
set_option linter.unusedSimpArgs false
open Go Go.RowKit

/-- A disk of three sectors, that tell v. -/
def CutS (w : World) (p g v : Nat) (wr : World) : Prop :=
  ∃ d, DiskAt wr p g d ∧ d.off = false ∧ d.left = -1 ∧ Ep.At d 0 3 v ∧ Below w.heap.size w wr ∧ w.heap.size ≤ p ∧ w.heap.size ≤ g
/-- .. in the midst of n steps up to a cut: k are done. -/
def CutI (w : World) (p g c v n k : Nat) (wr : World) : Prop :=
  ∃ d, DiskAt wr p g d ∧ Below w.heap.size w wr ∧ w.heap.size ≤ p ∧ w.heap.size ≤ g ∧ w.heap.size ≤ c ∧ c ≠ p ∧ c ≠ g ∧ CtrAt wr c p ((0 : Nat) : Int) ((128 * 3 : Nat) : Int) ((v + min k n : Nat) : Int) ∧
    ((k ≤ n ∧ d.off = false ∧ d.left = ((n - k : Nat) : Int) ∧ Ep.At d 0 3 (v + k)) ∨ (k = n + 1 ∧ d.off = true ∧ (Ep.At d 0 3 (v + n) ∨ Ep.At d 0 3 (v + n + 1))))
theorem cutI_next {w wr : World} {p g c v n k : Nat} (h : CutI w p g c v n k wr) (hk : k < n) (hv : v + n < 380) :
    Calls Try.prog 42 #[.pointer (some ⟨c, 0, none⟩)] wr fun e w' => e = .returned (.int .i64 0) ∧ CutI w p g c v n (k + 1) w' := by
  obtain ⟨d, hD, hb, r1, r2, r3, n1, n2, hC, h | h⟩ := h
  · obtain ⟨_, ho, hl, hA⟩ := h
    rw [show v + min k n = v + k by omega] at hC
    refine (ep_next_at hD 0 3 (v + k) hA ho (by omega) hC (by omega) n1 n2).mono ?_
    rintro e w' ⟨rfl, d1, D1, A1, O1, L1, M1, S1, N1, C1, K1⟩
    refine ⟨rfl, d1, D1.out, hb.trans (kept_pgc K1.out r1 r2 r3 hb.size), r1, r2, r3, n1, n2, ?_, .inl ⟨by omega, O1.out, by rw [L1.out, hl]; omega, A1.out⟩⟩
    rw [show v + min (k + 1) n = v + k + 1 by omega]
    exact C1.out
  · omega
theorem cutI_torn {w wr : World} {p g c v n : Nat} (h : CutI w p g c v n n wr) (hv : v + n < 380) :
    Calls Try.prog 42 #[.pointer (some ⟨c, 0, none⟩)] wr fun e w' => e = .returned (.int .i64 12) ∧ CutI w p g c v n (n + 1) w' := by
  obtain ⟨d, hD, hb, r1, r2, r3, n1, n2, hC, h | h⟩ := h
  · obtain ⟨_, ho, hl, hA⟩ := h
    rw [show v + min n n = v + n by omega] at hC
    refine (ep_next_torn hD 0 3 (v + n) hA ho (by rw [hl, Nat.sub_self]; rfl) hC (by omega) n1 n2).mono ?_
    rintro e w' ⟨rfl, d1, D1, A1, O1, C1, K1⟩
    refine ⟨rfl, d1, D1, hb.trans (kept_pgc K1 r1 r2 r3 hb.size), r1, r2, r3, n1, n2, ?_, .inr ⟨rfl, O1, A1⟩⟩
    rw [show v + min (n + 1) n = v + n by omega]
    exact C1
  · omega
theorem cutI_off {w wr : World} {p g c v n : Nat} (h : CutI w p g c v n (n + 1) wr) (hv : v + n < 380) :
    Calls Try.prog 42 #[.pointer (some ⟨c, 0, none⟩)] wr fun e w' => e = .returned (.int .i64 12) ∧ CutI w p g c v n (n + 1) w' := by
  obtain ⟨d, hD, hb, r1, r2, r3, n1, n2, hC, h | h⟩ := h
  · omega
  · obtain ⟨_, ho, hA⟩ := h
    rw [show v + min (n + 1) n = v + n by omega] at hC
    refine (ep_next_off hD 0 3 (v + n) (by rcases hA with h | h <;> exact h.fit) ho hC (by omega) n1 n2).mono ?_
    rintro e w' ⟨rfl, D1, C1, K1⟩
    refine ⟨rfl, d, D1, hb.trans (kept_pgc K1 r1 r2 r3 hb.size), r1, r2, r3, n1, n2, ?_, .inr ⟨rfl, ho, hA⟩⟩
    rw [show v + min (n + 1) n = v + n by omega]
    exact C1
theorem cutI_restart {w wr : World} {p g c v n : Nat} (h : CutI w p g c v n (n + 1) wr) :
    Calls Try.prog 25 #[.pointer (some ⟨p, 0, none⟩)] wr fun e w' => e = .returned (.int .i64 0) ∧ (CutS w p g (v + n) w' ∨ CutS w p g (v + n + 1) w') := by
  obtain ⟨d, hD, hb, r1, r2, r3, n1, n2, hC, h | h⟩ := h
  · omega
  · obtain ⟨_, ho, hA⟩ := h
    refine (dk_restart hD).mono ?_
    rintro e w' ⟨rfl, D1, K1⟩
    have hb2 := hb.trans (K1.toBelow (by intro k hk; simp at hk; omega) hb.size)
    refine ⟨rfl, ?_⟩
    rcases hA with hA | hA
    · exact .inl ⟨_, D1, rfl, rfl, ⟨hA.fit, hA.le, hA.get⟩, hb2, r1, r2⟩
    · exact .inr ⟨_, D1, rfl, rfl, ⟨hA.fit, hA.le, hA.get⟩, hb2, r1, r2⟩
theorem cutI_value {w wr : World} {p g c v n k : Nat} (h : CutI w p g c v n k wr) (u : Nat) (hu : u = v + min k n) :
    Calls Try.prog 43 #[.pointer (some ⟨c, 0, none⟩)] wr fun e w' => e = .returned (.int .i64 (u : Int)) ∧ wr = w' := by
  obtain ⟨d, hD, hb, r1, r2, r3, n1, n2, hC, h⟩ := h
  subst hu
  exact ep_value hC
theorem cutS_open {w wr : World} {p g v : Nat} (h : CutS w p g v wr) :
    Calls Try.prog 41 #[.pointer (some ⟨p, 0, none⟩), .int .i64 0, .int .i64 3] wr fun e w' => ∃ c, e = .returned (.tuple #[.pointer (some ⟨c, 0, none⟩), .int .i64 0]) ∧ CutS w p g v w' ∧
      CtrAt w' c p ((0 : Nat) : Int) ((128 * 3 : Nat) : Int) (v : Int) ∧ w.heap.size ≤ c ∧ c ≠ p ∧ c ≠ g := by
  obtain ⟨d, hD, ho, hl, hA, hb, r1, r2⟩ := h
  refine (ep_open_at hD 0 3 v hA ho (by omega)).mono ?_
  rintro e w' ⟨c, rfl, hc, hC, hb2⟩
  have := hD.ltp
  have := hD.ltg
  have := hb.size
  exact ⟨c, rfl, ⟨d, hD.below hb2 (Nat.le_refl _), ho, hl, hA, hb.trans (hb2.mono hb.size), r1, r2⟩, hC, by omega, by omega, by omega⟩
theorem cutS_cut {w wr : World} {p g v c : Nat} (h : CutS w p g v wr) (hC : CtrAt wr c p ((0 : Nat) : Int) ((128 * 3 : Nat) : Int) (v : Int)) (hc : w.heap.size ≤ c) (h1 : c ≠ p) (h2 : c ≠ g) (n : Nat) (hn : n ≤ 3) (mask : List (BitVec 8)) (hm : mask.length = 16) :
    Calls Try.prog 18 #[.pointer (some ⟨p, 0, none⟩), .int .i64 (n : Int), .agg (bytes mask)] wr fun e w' => e = .returned (.int .i64 0) ∧ CutI w p g c v n 0 w' := by
  obtain ⟨d, hD, ho, hl, hA, hb, r1, r2⟩ := h
  have hcut : Dk.cut d (n : Int) mask = ({ d with left := (n : Int), mask := mask }, 0) := Dk.cut_on d ho n mask
  refine (dk_cut hD (n : Int) mask hm (by omega)).mono ?_
  rw [hcut]
  rintro e w' ⟨rfl, hD2, hK⟩
  refine ⟨rfl, _, hD2, hb.trans (hK.toBelow (by intro k hk; simp at hk; omega) hb.size), r1, r2, hc, h1, h2, ?_, .inl ⟨by omega, ho, rfl, ⟨hA.fit, hA.le, hA.get⟩⟩⟩
  rw [Nat.zero_min]
  exact hC.kept hK (by simp; omega)
end Go.Proofs.Ytdnjjemdnlegdaa
