/-
  Opening a place (package seal).
-/
import Derived.Test.YtnoilogepkelaaaDoorBBase
namespace Go.Proofs.YtnoilogepkelaaaDoor
set_option linter.unusedVariables false
set_option linter.unusedSimpArgs false
open Go Go.RowKit Go.WideShapes Go.ChangeShapes

def placeC (u : Value) (pos ep : Nat) : List Value := [u, .int .u64 (pos : Int), .int .u32 (ep : Int)]
theorem tr_u64 {H : Type} {enc : TypeId × Value → H} {P : Program} {w : World} {fuel : Nat} {e : TypeId} {cs : List Value} {x : DataW H × List MemPlace} (he : P.underlying e = some (.int .u64)) (h : DataW.trod enc P w 0 (fun _ => true) true fuel e cs = some x) : ∃ n : Nat, cs = [.int .u64 (n : Int)] ∧ n < 18446744073709551616 := by
  obtain ⟨n, rfl, _, hw⟩ := DataW.trod_int he h
  have hb : 0 ≤ n ∧ n ≤ 18446744073709551615 := by simpa [Lit.wf, IntKind.min, IntKind.max, IntKind.bits, IntKind.signed] using hw
  exact ⟨n.toNat, by rw [Int.toNat_of_nonneg hb.1], by omega⟩
theorem tr_u32 {H : Type} {enc : TypeId × Value → H} {P : Program} {w : World} {fuel : Nat} {e : TypeId} {cs : List Value} {x : DataW H × List MemPlace} (he : P.underlying e = some (.int .u32)) (h : DataW.trod enc P w 0 (fun _ => true) true fuel e cs = some x) : ∃ n : Nat, cs = [.int .u32 (n : Int)] ∧ n < 4294967296 := by
  obtain ⟨n, rfl, _, hw⟩ := DataW.trod_int he h
  have hb : 0 ≤ n ∧ n ≤ 4294967295 := by simpa [Lit.wf, IntKind.min, IntKind.max, IntKind.bits, IntKind.signed] using hw
  exact ⟨n.toNat, by rw [Int.toNat_of_nonneg hb.1], by omega⟩
theorem open_place {H : Type} {enc : TypeId × Value → H} {W : World} {fuel : Nat} {cs : List Value} {x : DataW H × List MemPlace} (h : DataW.trod enc Tryd.prog W 0 (fun _ => true) true fuel 70 cs = some x) :
    ∃ (u : Value) (ctx : List (BitVec 8)) (pos ep : Nat), cs = placeC u pos ep ∧ SlB W u ctx ∧ pos < 18446744073709551616 ∧ ep < 4294967296 := by
  obtain ⟨ys, m, _, _, hl, hyl, hf⟩ := DataW.trod_struct Tryd.underlying70 h
  have k5 : Tryd.prog.cellsOf 5 = 1 := by kernel_rfl
  have kS : Tryd.prog.cellsOf 22 = 1 := by kernel_rfl
  have k6 : Tryd.prog.cellsOf 68 = 1 := by kernel_rfl
  have k3 : Tryd.prog.cellsOf 25 = 1 := by kernel_rfl
  have kA : Tryd.prog.cellsOf 70 = 3 := by kernel_rfl
  rw [kA] at hl
  have g : ∀ i, i < 3 → ∃ y, ys[i]? = some y := fun i hi => ⟨_, List.getElem?_eq_getElem (by rw [hyl]; exact hi)⟩
  obtain ⟨y0, e0⟩ := g 0 (by omega)
  obtain ⟨y1, e1⟩ := g 1 (by omega)
  obtain ⟨y2, e2⟩ := g 2 (by omega)
  have f0 : DataW.trod enc Tryd.prog W 0 (fun _ => true) true m 22 ((cs.drop 0).take (Tryd.prog.cellsOf 22)) = ys[0]? := hf 0 _ rfl
  rw [kS, e0] at f0
  have f1 : DataW.trod enc Tryd.prog W 0 (fun _ => true) true m 68 ((cs.drop 1).take (Tryd.prog.cellsOf 68)) = ys[1]? := hf 1 _ rfl
  rw [k6, e1] at f1
  have f2 : DataW.trod enc Tryd.prog W 0 (fun _ => true) true m 25 ((cs.drop 2).take (Tryd.prog.cellsOf 25)) = ys[2]? := hf 2 _ rfl
  rw [k3, e2] at f2
  obtain ⟨u, ctx, h0, hs⟩ := tr_sl Tryd.underlying22 Tryd.underlying5 k5 f0
  obtain ⟨pos, h1, hp⟩ := tr_u64 Tryd.underlying68 f1
  obtain ⟨ep, h2, he⟩ := tr_u32 Tryd.underlying25 f2
  refine ⟨u, ctx, pos, ep, ?_, hs, hp, he⟩
  have e : cs = cs.drop 0 := rfl
  rw [e, cut_at cs 0 1, cut_at cs (0 + 1) 1, cut_at cs (0 + 1 + 1) 1, h0, h1, h2, List.drop_of_length_le (by omega)]
  simp [placeC]
end Go.Proofs.YtnoilogepkelaaaDoor
