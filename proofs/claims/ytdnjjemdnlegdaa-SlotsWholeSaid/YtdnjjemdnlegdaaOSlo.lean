/-
  Opening the arguments of layer 9's statements; the law SlotsWhole.
-/
import Derived.Test.YtdnjjemdnlegdaaOpen
import Derived.Test.YtdnjjemdnlegdaaSloP
namespace Go.Proofs.Ytdnjjemdnlegdaa
set_option linter.unusedVariables false
set_option linter.unusedSimpArgs false
open Go Go.RowKit Go.WideShapes Go.ChangeShapes

theorem open_act09 {H : Type} {enc : TypeId × Value → H} {W : World} {fuel : Nat} {cs : List Value} {x : DataW H × List MemPlace} (h : DataW.trod enc Try.prog W 0 (fun _ => true) true fuel 53 cs = some x) :
    ∃ (wt wh at_ : Int) (mask : List (BitVec 8)) (v : Value) (xs : List (BitVec 8)), cs = actC9 wt wh at_ mask v ∧ SlB W v xs ∧ mask.length = 16 ∧ (-9223372036854775808 ≤ wt ∧ wt ≤ 9223372036854775807) ∧ (-9223372036854775808 ≤ wh ∧ wh ≤ 9223372036854775807) ∧ (-9223372036854775808 ≤ at_ ∧ at_ ≤ 9223372036854775807) := by
  obtain ⟨ys, m, _, _, hl, hyl, hf⟩ := DataW.trod_struct Try.underlying53 h
  have k5 : Try.prog.cellsOf 5 = 1 := by kernel_rfl
  have k3 : Try.prog.cellsOf 3 = 1 := by kernel_rfl
  have k22 : Try.prog.cellsOf 22 = 1 := by kernel_rfl
  have k23 : Try.prog.cellsOf 23 = 16 := by kernel_rfl
  have kA : Try.prog.cellsOf 53 = 20 := by kernel_rfl
  rw [kA] at hl
  have g : ∀ i, i < 5 → ∃ y, ys[i]? = some y := fun i hi => ⟨_, List.getElem?_eq_getElem (by rw [hyl]; exact hi)⟩
  obtain ⟨y0, e0⟩ := g 0 (by omega)
  obtain ⟨y1, e1⟩ := g 1 (by omega)
  obtain ⟨y2, e2⟩ := g 2 (by omega)
  obtain ⟨y3, e3⟩ := g 3 (by omega)
  obtain ⟨y4, e4⟩ := g 4 (by omega)
  have f0 : DataW.trod enc Try.prog W 0 (fun _ => true) true m 3 ((cs.drop 0).take (Try.prog.cellsOf 3)) = ys[0]? := hf 0 _ rfl
  rw [k3, e0] at f0
  have f1 : DataW.trod enc Try.prog W 0 (fun _ => true) true m 3 ((cs.drop 1).take (Try.prog.cellsOf 3)) = ys[1]? := hf 1 _ rfl
  rw [k3, e1] at f1
  have f2 : DataW.trod enc Try.prog W 0 (fun _ => true) true m 3 ((cs.drop 2).take (Try.prog.cellsOf 3)) = ys[2]? := hf 2 _ rfl
  rw [k3, e2] at f2
  have f3 : DataW.trod enc Try.prog W 0 (fun _ => true) true m 23 ((cs.drop 3).take (Try.prog.cellsOf 23)) = ys[3]? := hf 3 _ rfl
  rw [k23, e3] at f3
  have f4 : DataW.trod enc Try.prog W 0 (fun _ => true) true m 22 ((cs.drop 19).take (Try.prog.cellsOf 22)) = ys[4]? := hf 4 _ rfl
  rw [k22, e4] at f4
  obtain ⟨wt, h0, ra, rb⟩ := tr_int Try.underlying3 f0
  obtain ⟨wh, h1, rc, rd⟩ := tr_int Try.underlying3 f1
  obtain ⟨at_, h2, re, rf⟩ := tr_int Try.underlying3 f2
  obtain ⟨mask, hm, h3⟩ := tr_bytes Try.underlying23 Try.underlying5 k5 k23 f3
  obtain ⟨v, xs, h4, hs⟩ := tr_sl Try.underlying22 Try.underlying5 k5 f4
  refine ⟨wt, wh, at_, mask, v, xs, ?_, hs, hm, ⟨ra, rb⟩, ⟨rc, rd⟩, ⟨re, rf⟩⟩
  have e : cs = cs.drop 0 := rfl
  rw [e, cut_at cs 0 1, cut_at cs (0 + 1) 1, cut_at cs (0 + 1 + 1) 1, cut_at cs (0 + 1 + 1 + 1) 16, cut_at cs (0 + 1 + 1 + 1 + 16) 1, h0, h1, h2, h3, h4, List.drop_of_length_le (by omega)]
  simp [actC9, byteV, bcells]
def ActSl9 (w : World) (v : Value) : Prop := ∃ a n cap, v = .slice a n cap ∧ n ≤ cap ∧ cap ≤ maxLen ∧ Acts9 w a n
set_option maxRecDepth 100000 in
theorem open_acts09 {H : Type} {enc : TypeId × Value → H} {W : World} {r : Reach} {base : Nat} {v : Value} {d : DataW H} {ps : List MemPlace} (hv : Value.okWide Try.prog W r base 48 v) (h : DataW.Trod enc Try.prog W 0 (fun _ => true) true 48 v d ps) : ActSl9 W v := by
  obtain ⟨a, l, c, rfl⟩ := slice_form Try.underlying48 hv
  obtain ⟨m, hm⟩ := h
  obtain ⟨a', len, cap, e, h1, h2, h3⟩ := tr_slice (sz := 20) Try.underlying48 (by kernel_rfl) (by omega) hm
  have e : Value.slice a l c = .slice a' len cap := by simpa [Value.cells] using e
  simp only [Value.slice.injEq] at e
  obtain ⟨rfl, rfl, rfl⟩ := e
  refine ⟨a, l, c, rfl, h1, h2, fun hp => ?_⟩
  obtain ⟨b, off, ha, hb, hx⟩ := h3 hp
  refine ⟨b, off, ha, hb, fun i hi => ?_⟩
  obtain ⟨cs, hl, hc, n, y, ht⟩ := hx i hi
  obtain ⟨wt, wh, at_, mask, v, xs, rfl, hs, hm, r1, r2, r3⟩ := open_act09 ht
  exact ⟨wt, wh, at_, mask, v, xs, fun j u hu => hc j u hu, hs, hm, r1, r2, r3⟩
theorem row_slotsWhole {w : World} (v0 : Value) (h0 : ∃ xs, SlS w v0 xs) (v1 : Value) (h1 : ActSl9 w v1) :
    Calls Try.prog 6 #[v0, v1] w fun e w' => e = .returned (.bool true) ∧ Below w.heap.size w w' := by
  obtain ⟨xs, hx⟩ := h0
  obtain ⟨a1, n1, cap1, rfl, hc1, hm1, hk1⟩ := h1
  exact law_slotsWhole v0 xs hx a1 n1 cap1 hk1 hc1 hm1
end Go.Proofs.Ytdnjjemdnlegdaa
