/-
  Opening an act of layer 8's statements.
-/
import Derived.Test.YtdnjjemdnlegdaaOpen
import Derived.Test.YtdnjjemdnlegdaaDl3
namespace Go.Proofs.Ytdnjjemdnlegdaa
set_option linter.unusedVariables false
set_option linter.unusedSimpArgs false
open Go Go.RowKit Go.WideShapes Go.ChangeShapes

theorem open_act08 {H : Type} {enc : TypeId × Value → H} {W : World} {fuel : Nat} {cs : List Value} {x : DataW H × List MemPlace} (h : DataW.trod enc Try.prog W 0 (fun _ => true) true fuel 25 cs = some x) :
    ∃ (a0 : BitVec 8) (at_ n : Int) (v : Value) (xs : List (BitVec 8)) (wh : Bool) (mask : List (BitVec 8)), cs = actC a0 at_ n v wh mask ∧ SlB W v xs ∧ mask.length = 16 ∧ -9223372036854775808 ≤ at_ ∧ at_ ≤ 9223372036854775807 ∧ -9223372036854775808 ≤ n ∧ n ≤ 9223372036854775807 := by
  obtain ⟨ys, m, _, _, hl, hyl, hf⟩ := DataW.trod_struct Try.underlying25 h
  have k5 : Try.prog.cellsOf 5 = 1 := by kernel_rfl
  have k3 : Try.prog.cellsOf 3 = 1 := by kernel_rfl
  have k4 : Try.prog.cellsOf 4 = 1 := by kernel_rfl
  have k22 : Try.prog.cellsOf 22 = 1 := by kernel_rfl
  have k23 : Try.prog.cellsOf 23 = 16 := by kernel_rfl
  have kA : Try.prog.cellsOf 25 = 21 := by kernel_rfl
  rw [kA] at hl
  have g : ∀ i, i < 6 → ∃ y, ys[i]? = some y := fun i hi => ⟨_, List.getElem?_eq_getElem (by rw [hyl]; exact hi)⟩
  obtain ⟨y0, e0⟩ := g 0 (by omega)
  obtain ⟨y1, e1⟩ := g 1 (by omega)
  obtain ⟨y2, e2⟩ := g 2 (by omega)
  obtain ⟨y3, e3⟩ := g 3 (by omega)
  obtain ⟨y4, e4⟩ := g 4 (by omega)
  obtain ⟨y5, e5⟩ := g 5 (by omega)
  have f0 : DataW.trod enc Try.prog W 0 (fun _ => true) true m 5 ((cs.drop 0).take (Try.prog.cellsOf 5)) = ys[0]? := hf 0 _ rfl
  rw [k5, e0] at f0
  have f1 : DataW.trod enc Try.prog W 0 (fun _ => true) true m 3 ((cs.drop 1).take (Try.prog.cellsOf 3)) = ys[1]? := hf 1 _ rfl
  rw [k3, e1] at f1
  have f2 : DataW.trod enc Try.prog W 0 (fun _ => true) true m 3 ((cs.drop 2).take (Try.prog.cellsOf 3)) = ys[2]? := hf 2 _ rfl
  rw [k3, e2] at f2
  have f3 : DataW.trod enc Try.prog W 0 (fun _ => true) true m 22 ((cs.drop 3).take (Try.prog.cellsOf 22)) = ys[3]? := hf 3 _ rfl
  rw [k22, e3] at f3
  have f4 : DataW.trod enc Try.prog W 0 (fun _ => true) true m 4 ((cs.drop 4).take (Try.prog.cellsOf 4)) = ys[4]? := hf 4 _ rfl
  rw [k4, e4] at f4
  have f5 : DataW.trod enc Try.prog W 0 (fun _ => true) true m 23 ((cs.drop 5).take (Try.prog.cellsOf 23)) = ys[5]? := hf 5 _ rfl
  rw [k23, e5] at f5
  obtain ⟨a0, h0⟩ := tr_byte Try.underlying5 f0
  obtain ⟨at_, h1, ra, rb⟩ := tr_int Try.underlying3 f1
  obtain ⟨n, h2, rc, rd⟩ := tr_int Try.underlying3 f2
  obtain ⟨v, xs, h3, hs⟩ := tr_sl Try.underlying22 Try.underlying5 k5 f3
  obtain ⟨wh, h4⟩ := tr_bool Try.underlying4 f4
  obtain ⟨mask, hm, h5⟩ := tr_bytes Try.underlying23 Try.underlying5 k5 k23 f5
  refine ⟨a0, at_, n, v, xs, wh, mask, ?_, hs, hm, ra, rb, rc, rd⟩
  have e : cs = cs.drop 0 := rfl
  rw [e, cut_at cs 0 1, cut_at cs (0 + 1) 1, cut_at cs (0 + 1 + 1) 1, cut_at cs (0 + 1 + 1 + 1) 1, cut_at cs (0 + 1 + 1 + 1 + 1) 1, cut_at cs (0 + 1 + 1 + 1 + 1 + 1) 16, h0, h1, h2, h3, h4, h5, List.drop_of_length_le (by omega)]
  simp [actC, byteV]

theorem row_diskTorn {w : World} (v0 : Value) (xs0 : List (BitVec 8)) (h0 : SlB w v0 xs0) (v1 : Value) (xs1 : List (BitVec 8)) (h1 : SlB w v1 xs1) (a0 : BitVec 8) (at_ n : Int) (v2 : Value) (wh : Bool) (mask : List (BitVec 8)) (hm : mask.length = 16)
    (ha0 : -9223372036854775808 ≤ at_) (ha1 : at_ ≤ 9223372036854775807) (hn0 : -9223372036854775808 ≤ n) (hn1 : n ≤ 9223372036854775807) :
    Calls Try.prog 3 #[v0, v1, .agg (actC a0 at_ n v2 wh mask).toArray] w fun e w' => e = .returned (.bool true) ∧ Below w.heap.size w w' :=
  law_diskTorn v0 xs0 v1 xs1 a0 at_ n v2 wh mask w h0 h1 hm ha0 ha1 hn0 hn1
end Go.Proofs.Ytdnjjemdnlegdaa
