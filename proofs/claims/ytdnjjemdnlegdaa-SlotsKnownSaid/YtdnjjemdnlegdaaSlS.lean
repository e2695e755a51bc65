/-
  A slice of slices of bytes, as an argument: what can be read of it.
-/
import Derived.Test.YtdnjjemdnlegdaaOpen
import Derived.Test.YtdnjjemdnlegdaaLibC
namespace Go.Proofs.Ytdnjjemdnlegdaa
set_option linter.unusedVariables false
set_option linter.unusedSimpArgs false
open Go Go.RowKit Go.WideShapes Go.ChangeShapes

/-- The slice value v reads as a slice of slices of bytes. -/
def SlS (w : World) (v : Value) (xs : List (List (BitVec 8))) : Prop :=
  ∃ a cap, v = .slice a xs.length cap ∧ xs.length ≤ cap ∧ cap ≤ maxLen ∧
    ∀ j, j < xs.length → ∃ b off u, a = some ⟨b, off, none⟩ ∧ b < w.heap.size ∧ w.cell? ⟨b, off + j, none⟩ = some u ∧ SlB w u (xs.getD j [])
theorem SlS.below {B : Nat} {w w' : World} {v : Value} {xs : List (List (BitVec 8))} (h : SlS w v xs) (hb : Below B w w') (hB : w.heap.size ≤ B) : SlS w' v xs := by
  obtain ⟨a, cap, rfl, h1, h2, h3⟩ := h
  refine ⟨a, cap, rfl, h1, h2, fun j hj => ?_⟩
  obtain ⟨b, off, u, rfl, hb', hc, hs⟩ := h3 j hj
  exact ⟨b, off, u, rfl, by have := hb.size; omega, (hb.cell (p := ⟨b, off + j, none⟩) (by show b < B; omega)).trans hc, hs.below hb hB⟩
theorem list_of_ex {α : Type} (d : α) (P : Nat → α → Prop) : ∀ n, (∀ i, i < n → ∃ x, P i x) → ∃ xs : List α, xs.length = n ∧ ∀ i, i < n → P i (xs.getD i d)
  | 0, _ => ⟨[], rfl, fun i hi => absurd hi (by omega)⟩
  | n + 1, h => by
    obtain ⟨xs, hl, hx⟩ := list_of_ex d P n (fun i hi => h i (by omega))
    obtain ⟨x, hp⟩ := h n (by omega)
    refine ⟨xs ++ [x], by simp [hl], fun i hi => ?_⟩
    by_cases e : i = n
    · subst e
      have : (xs ++ [x]).getD i d = x := by simp [List.getD, List.getElem?_append_right (Nat.le_of_eq hl), hl]
      rw [this]; exact hp
    · have : (xs ++ [x]).getD i d = xs.getD i d := by simp only [List.getD]; rw [List.getElem?_append_left (by omega)]
      rw [this]; exact hx i (by omega)
set_option maxRecDepth 100000 in
theorem open_slices {H : Type} {enc : TypeId × Value → H} {W : World} {r : Reach} {base : Nat} {v : Value} {d : DataW H} {ps : List MemPlace} (hv : Value.okWide Try.prog W r base 47 v) (h : DataW.Trod enc Try.prog W 0 (fun _ => true) true 47 v d ps) : ∃ xs, SlS W v xs := by
  obtain ⟨a, l, c, rfl⟩ := slice_form Try.underlying47 hv
  obtain ⟨m, hm⟩ := h
  obtain ⟨a', len, cap, e, h1, h2, h3⟩ := tr_slice (sz := 1) Try.underlying47 (by kernel_rfl) (by omega) hm
  have e : Value.slice a l c = .slice a' len cap := by simpa [Value.cells] using e
  simp only [Value.slice.injEq] at e
  obtain ⟨rfl, rfl, rfl⟩ := e
  have hq : ∀ i, i < l → ∃ xs, ∃ b off u, a = some ⟨b, off, none⟩ ∧ b < W.heap.size ∧ W.cell? ⟨b, off + i, none⟩ = some u ∧ SlB W u xs := fun i hi => by
    obtain ⟨b, off, ha, hb, hx⟩ := h3 (by omega)
    obtain ⟨cs, hl, hc, n, y, ht⟩ := hx i hi
    obtain ⟨u, xs, rfl, hs⟩ := tr_sl Try.underlying22 Try.underlying5 (by kernel_rfl) ht
    exact ⟨xs, b, off, u, ha, hb, by simpa using hc 0 u rfl, hs⟩
  obtain ⟨xs, hl, hx⟩ := list_of_ex ([] : List (BitVec 8)) _ l hq
  subst hl
  exact ⟨xs, a, c, rfl, h1, h2, hx⟩
end Go.Proofs.Ytdnjjemdnlegdaa
