/-
  The law DiskCopies: its arguments opened.
-/
import Derived.Test.YtdnjjemdnlegdaaDc2
namespace Go.Proofs.Ytdnjjemdnlegdaa
set_option linter.unusedVariables false
set_option linter.unusedSimpArgs false
open Go Go.RowKit Go.WideShapes Go.ChangeShapes

def ActSl (w : World) (v : Value) : Prop := ∃ a n cap, v = .slice a n cap ∧ n ≤ cap ∧ cap ≤ maxLen ∧ Acts w a n
set_option maxRecDepth 100000 in
theorem open_acts08 {H : Type} {enc : TypeId × Value → H} {W : World} {r : Reach} {base : Nat} {v : Value} {d : DataW H} {ps : List MemPlace} (hv : Value.okWide Try.prog W r base 37 v) (h : DataW.Trod enc Try.prog W 0 (fun _ => true) true 37 v d ps) : ActSl W v := by
  obtain ⟨a, l, c, rfl⟩ := slice_form Try.underlying37 hv
  obtain ⟨m, hm⟩ := h
  obtain ⟨a', len, cap, e, h1, h2, h3⟩ := tr_slice (sz := 21) Try.underlying37 (by kernel_rfl) (by omega) hm
  have e : Value.slice a l c = .slice a' len cap := by simpa [Value.cells] using e
  simp only [Value.slice.injEq] at e
  obtain ⟨rfl, rfl, rfl⟩ := e
  refine ⟨a, l, c, rfl, h1, h2, fun hp => ?_⟩
  obtain ⟨b, off, ha, hb, hx⟩ := h3 hp
  refine ⟨b, off, ha, hb, fun i hi => ?_⟩
  obtain ⟨cs, hl, hc, n, y, ht⟩ := hx i hi
  obtain ⟨a0, at_, n, v, xs, wh, mask, rfl, hs, hm, r1, r2, r3, r4⟩ := open_act08 ht
  exact ⟨a0, at_, n, v, xs, wh, mask, fun j u hu => hc j u hu, hs, hm, r1, r2, r3, r4⟩
theorem row_diskCopies {w : World} (v0 : Value) (h0 : ActSl w v0) (v1 : Value) (h1 : ActSl w v1) :
    Calls Try.prog 4 #[v0, v1] w fun e w' => e = .returned (.bool true) ∧ Below w.heap.size w w' := by
  obtain ⟨a0, n0, cap0, rfl, hc0, hm0, hk0⟩ := h0
  obtain ⟨a1, n1, cap1, rfl, hc1, hm1, hk1⟩ := h1
  exact law_diskCopies a0 n0 cap0 a1 n1 cap1 w hm0 hc0 hc1 hm1 hk0 hk1
end Go.Proofs.Ytdnjjemdnlegdaa
