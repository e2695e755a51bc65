/-
  The law EpochCut, as its row wants it.
-/
import Derived.Test.YtdnjjemdnlegdaaOpen
import Derived.Test.YtdnjjemdnlegdaaEl4
namespace Go.Proofs.Ytdnjjemdnlegdaa
set_option linter.unusedVariables false
set_option linter.unusedSimpArgs false
open Go Go.RowKit Go.WideShapes Go.ChangeShapes

def MaskSl (w : World) (v : Value) : Prop := ∃ a n cap, v = .slice a n cap ∧ n ≤ cap ∧ cap ≤ maxLen ∧ Masks w a n
set_option maxRecDepth 100000 in
theorem open_masks {H : Type} {enc : TypeId × Value → H} {W : World} {r : Reach} {base : Nat} {v : Value} {d : DataW H} {ps : List MemPlace} (hv : Value.okWide Try.prog W r base 88 v) (h : DataW.Trod enc Try.prog W 0 (fun _ => true) true 88 v d ps) : MaskSl W v := by
  obtain ⟨a, l, c, rfl⟩ := slice_form Try.underlying88 hv
  obtain ⟨m, hm⟩ := h
  obtain ⟨a', len, cap, e, h1, h2, h3⟩ := tr_slice (sz := 16) Try.underlying88 (by kernel_rfl) (by omega) hm
  have e : Value.slice a l c = .slice a' len cap := by simpa [Value.cells] using e
  simp only [Value.slice.injEq] at e
  obtain ⟨rfl, rfl, rfl⟩ := e
  refine ⟨a, l, c, rfl, h1, h2, fun hp => ?_⟩
  obtain ⟨b, off, ha, hb, hx⟩ := h3 hp
  refine ⟨b, off, ha, hb, fun i hi => ?_⟩
  obtain ⟨cs, hl, hc, n, y, ht⟩ := hx i hi
  obtain ⟨mask, hml, rfl⟩ := tr_bytes Try.underlying23 Try.underlying5 (by kernel_rfl) (by kernel_rfl) ht
  exact ⟨mask, hml, fun j u hu => hc j u hu⟩
theorem row_epochCut {w : World} (v0 : Value) (xs : List (BitVec 8)) (h0 : SlB w v0 xs) (v1 : Value) (h1 : MaskSl w v1) :
    Calls Try.prog 13 #[v0, v1] w fun e w' => e = .returned (.bool true) ∧ Below w.heap.size w w' := by
  obtain ⟨a, n, cap, rfl, hc, hm, hk⟩ := h1
  exact law_epochCut v0 xs a n cap w h0 hc hm hk
end Go.Proofs.Ytdnjjemdnlegdaa
