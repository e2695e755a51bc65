/-
  slots.Open: the plain law; what is refused.
-/
import Derived.Test.YtdnjjemdnlegdaaSloI
namespace Go.Proofs.Ytdnjjemdnlegdaa
set_option linter.unusedVariables false
set_option linter.unusedSimpArgs false
open Go Go.RowKit Go.Shelf
attribute [local go_sem] Oper.semAt_some
namespace Slo
open Dk
/-- The log that is found on a disk; or why there is none. -/
def open_ (d : D) (fr n : Int) : Option L × Int :=
  if fr < 0 ∨ n < 1 ∨ ((d.b.length / 128 : Nat) : Int) < n ∨ ((d.b.length / 128 : Nat) : Int) - n < fr then (none, 2)
  else if d.off = true then (none, 12)
  else if (parse n.toNat (region d fr.toNat n.toNat)).2 = true then (some ⟨fr.toNat, n.toNat, (parse n.toNat (region d fr.toNat n.toNat)).1, used (parse n.toNat (region d fr.toNat n.toNat)).1, false⟩, 0)
  else (none, 9)
end Slo
/-- What Open returns. -/
def OpenR (w : World) (p g : Nat) (r : Option Slo.L × Int) (e : Ending) (w' : World) : Prop :=
  Below w.heap.size w w' ∧ match r.1 with
  | none => e = .returned (.tuple #[.pointer none, .int .i64 r.2])
  | some l => r.2 = 0 ∧ ∃ q vt vs, e = .returned (.tuple #[.pointer (some ⟨q, 0, none⟩), .int .i64 0]) ∧ LogAt w' q p g vt vs l ∧ w.heap.size ≤ q ∧ (∀ k, vt.ownBlock = some k → w.heap.size ≤ k) ∧ ∀ i k, (vs.getD i undef).ownBlock = some k → w.heap.size ≤ k

/-- Two cells for what a call returns. -/
theorem two_out {w W : World} {B : Nat} {x0 y0 : Value} {t u : TypeId} (hb : Below B w W) (h6 : W.heap[B]? = some (.cells #[x0] t (0, 0))) (h7 : W.heap[B + 1]? = some (.cells #[y0] u (0, 0))) (hB : B ≤ w.heap.size) (x y : Value) :
    ((W.setCell ⟨B, 0, none⟩ x).setCell ⟨B + 1, 0, none⟩ y).cell? ⟨B, 0, none⟩ = some x ∧ ((W.setCell ⟨B, 0, none⟩ x).setCell ⟨B + 1, 0, none⟩ y).cell? ⟨B + 1, 0, none⟩ = some y ∧ Below B w ((W.setCell ⟨B, 0, none⟩ x).setCell ⟨B + 1, 0, none⟩ y) := by
  have e1 : (W.setCell ⟨B, 0, none⟩ x).heap[B]? = some (.cells #[x] t (0, 0)) := heap_setCell_same W B 0 _ _ x h6
  have e2 : (W.setCell ⟨B, 0, none⟩ x).heap[B + 1]? = some (.cells #[y0] u (0, 0)) := (heap_setCell_other W ⟨B, 0, none⟩ (B + 1) x (by simp)).trans h7
  have e3 : ((W.setCell ⟨B, 0, none⟩ x).setCell ⟨B + 1, 0, none⟩ y).heap[B]? = some (.cells #[x] t (0, 0)) := (heap_setCell_other _ ⟨B + 1, 0, none⟩ B y (by simp)).trans e1
  have e4 : ((W.setCell ⟨B, 0, none⟩ x).setCell ⟨B + 1, 0, none⟩ y).heap[B + 1]? = some (.cells #[y] u (0, 0)) := heap_setCell_same _ (B + 1) 0 _ _ y e2
  exact ⟨cell_of_row _ _ 0 _ _ _ e3, cell_of_row _ _ 0 _ _ _ e4, (hb.setCell (by simp) _).setCell (by simp) _⟩

set_option maxRecDepth 100000 in
set_option maxHeartbeats 4000000 in
theorem open_arg {w : World} {p g : Nat} {d : Dk.D} (hD : DiskAt w p g d) (fr n : Int) (h0 : -9223372036854775808 ≤ n) (h1 : n ≤ 9223372036854775807) (hbad : fr < 0 ∨ n < 1 ∨ ((d.b.length / 128 : Nat) : Int) < n ∨ ((d.b.length / 128 : Nat) : Int) - n < fr) :
    Calls Try.prog 31 #[.pointer (some ⟨p, 0, none⟩), .int .i64 fr, .int .i64 n] w (OpenR w p g (none, 2)) := by
  have hp := hD.pos
  have HS := Lib.hid (fun W (hW : Below w.heap.size w W) => dk_sectors (hD.below hW (Nat.le_refl _)))
  obtain ⟨M, hM⟩ : ∃ M, d.b.length / 128 = M := ⟨_, rfl⟩
  rw [hM] at HS hbad
  have hM1 : 1 ≤ M ∧ M ≤ 16384 := by omega
  obtain ⟨W, hW, hBW, hWs, h6, h7⟩ := alloc2 w (.cells #[.pointer none] 49) (.cells #[.int .i64 0] 27)
  have HW := Lib.hid hW
  have c6 : W.cell? ⟨w.heap.size, 0, none⟩ = some (.pointer none) := cell_of_row _ _ 0 _ _ _ h6
  have c7 : W.cell? ⟨w.heap.size + 1, 0, none⟩ = some (.int .i64 0) := cell_of_row _ _ 0 _ _ _ h7
  have f6 : W.frozen? ⟨w.heap.size, 0, none⟩ = false := frozen_of_row _ _ 0 _ _ h6
  have f7 : W.frozen? ⟨w.heap.size + 1, 0, none⟩ = false := frozen_of_row _ _ 0 _ _ h7
  have HBW := Lib.hid hBW
  have HTO := Lib.hid (two_out hBW h6 h7 (Nat.le_refl _))
  have hM0 : ¬ (M : Int) = 0 := by omega
  have hM2 : M ≠ 0 := by omega
  clear hW hBW h6 h7 hD hp hM
  unfold OpenR
  refine (callsIn_wide (n := 3)).1 ?_
  have hc : fr < 0 ∨ (¬ fr < 0 ∧ n < 1) ∨ (¬ fr < 0 ∧ ¬ n < 1 ∧ (M : Int) < n) ∨ (¬ fr < 0 ∧ ¬ n < 1 ∧ ¬ (M : Int) < n ∧ (M : Int) - n < fr ∧ IntKind.i64.wrap ((M : Int) - n) = M - n) := by
    by_cases a1 : fr < 0
    · exact .inl a1
    by_cases a2 : n < 1
    · exact .inr (.inl ⟨a1, a2⟩)
    by_cases a3 : (M : Int) < n
    · exact .inr (.inr (.inl ⟨a1, a2, a3⟩))
    · exact .inr (.inr (.inr ⟨a1, a2, a3, by omega, by rw [IntKind.wrap_i64]; omega⟩))
  clear hbad
  rcases hc with k1 | ⟨k1, k2⟩ | ⟨k1, k2, k3⟩ | ⟨k1, k2, k3, k4, k5⟩
  all_goals
    refine callsIn_of_wp_marks Try.func31 rfl trivial ?_ rfl
    simp only [Try.ntmps31, List.size_toArray, List.length_cons, List.length_nil, Nat.reduceAdd, Nat.reduceSub, Array.replicate_succ, Array.replicate_zero, List.push_toArray, List.append_toArray, List.nil_append, List.cons_append]
    gi_wp2_with (refine ⟨trivial, ?_⟩; gi_at_call 27; rw [HW.out]; refine (callsIn_wide.2 (HS.out W HBW.out)).mono ?_; rintro e w' ⟨rfl, rfl⟩)
    obtain ⟨r1, r2, r3⟩ := HTO.out (.pointer none) (.int .i64 2)
    exact ⟨_, by simp [results, Try.results31, go_sem, r1, r2], r3, rfl⟩
set_option maxRecDepth 100000 in
set_option maxHeartbeats 4000000 in
theorem open_off {w : World} {p g : Nat} {d : Dk.D} (hD : DiskAt w p g d) (fr n : Int) (k1 : 0 ≤ fr) (k2 : 1 ≤ n) (k4 : fr ≤ ((d.b.length / 128 : Nat) : Int) - n) (hoff : d.off = true) :
    Calls Try.prog 31 #[.pointer (some ⟨p, 0, none⟩), .int .i64 fr, .int .i64 n] w (OpenR w p g (none, 12)) := by
  have hp := hD.pos
  have HS := Lib.hid (fun W (hW : Below w.heap.size w W) => dk_sectors (hD.below hW (Nat.le_refl _)))
  have hr : (Dk.read d fr n).2 = 12 := by
    have hh : Dk.has d fr n = true := (Dk.has_iff d fr n).2 ⟨k1, by omega, by omega, by omega⟩
    have hm : Dk.may d fr n = 12 := by unfold Dk.may; rw [if_pos hh, if_pos hoff]
    unfold Dk.read
    rw [hm]; rfl
  have HRD := Lib.hid (fun W (hW : Below w.heap.size w W) => (dk_read (hD.below hW (Nat.le_refl _)) fr n (by omega) (by omega) (by omega)).mono (R' := fun e w' => ∃ v, e = .returned (.tuple #[v, .int .i64 12]) ∧ Below W.heap.size W w') (by rintro e w' ⟨v, rfl, _, hb⟩; exact ⟨v, by rw [hr], hb⟩))
  obtain ⟨M, hM⟩ : ∃ M, d.b.length / 128 = M := ⟨_, rfl⟩
  rw [hM] at HS k4
  have hM1 : 1 ≤ M ∧ M ≤ 16384 := by omega
  obtain ⟨W, hW, hBW, hWs, h6, h7⟩ := alloc2 w (.cells #[.pointer none] 49) (.cells #[.int .i64 0] 27)
  have HW := Lib.hid hW
  have HBW := Lib.hid hBW
  have H67 := Lib.hid (And.intro h6 h7)
  have hM0 : ¬ (M : Int) = 0 := by omega
  have hM2 : M ≠ 0 := by omega
  have k0 : ¬ fr < 0 := by omega
  have k3 : ¬ n < 1 := by omega
  have k5 : ¬ (M : Int) < n := by omega
  have k6 : ¬ (M : Int) - n < fr := by omega
  have k7 : IntKind.i64.wrap ((M : Int) - n) = M - n := by rw [IntKind.wrap_i64]; omega
  clear hW hBW h6 h7 hD hp hM hr k1 k2 k4
  unfold OpenR
  refine (callsIn_wide (n := 3)).1 ?_
  refine callsIn_of_wp_marks Try.func31 rfl trivial ?_ rfl
  simp only [Try.ntmps31, List.size_toArray, List.length_cons, List.length_nil, Nat.reduceAdd, Nat.reduceSub, Array.replicate_succ, Array.replicate_zero, List.push_toArray, List.append_toArray, List.nil_append, List.cons_append]
  gi_wp2_with (first
    | (refine ⟨trivial, ?_⟩; gi_at_call 27; rw [HW.out]; refine (callsIn_wide.2 (HS.out W HBW.out)).mono ?_; rintro e w' ⟨rfl, rfl⟩)
    | (refine ⟨trivial, ?_⟩; gi_at_call 26; refine (callsIn_wide.2 (HRD.out W HBW.out)).mono ?_; rintro e w2 ⟨v, rfl, hb2⟩; have HB2 := Lib.hid (HBW.out.trans (hb2.mono HBW.out.size)); have H6 := Lib.hid ((hb2.block w.heap.size (by omega)).trans H67.out.1); have H7 := Lib.hid ((hb2.block (w.heap.size + 1) (by omega)).trans H67.out.2); clear hb2; have c6 : w2.cell? ⟨w.heap.size, 0, none⟩ = some (.pointer none) := cell_of_row _ _ 0 _ _ _ H6.out; have c7 : w2.cell? ⟨w.heap.size + 1, 0, none⟩ = some (.int .i64 0) := cell_of_row _ _ 0 _ _ _ H7.out; have f6 : w2.frozen? ⟨w.heap.size, 0, none⟩ = false := frozen_of_row _ _ 0 _ _ H6.out; have f7 : w2.frozen? ⟨w.heap.size + 1, 0, none⟩ = false := frozen_of_row _ _ 0 _ _ H7.out))
  obtain ⟨r1, r2, r3⟩ := two_out HB2.out H6.out H7.out (Nat.le_refl _) (.pointer none) (.int .i64 12)
  exact ⟨_, by simp [results, Try.results31, go_sem, r1, r2], r3, rfl⟩
end Go.Proofs.Ytdnjjemdnlegdaa
