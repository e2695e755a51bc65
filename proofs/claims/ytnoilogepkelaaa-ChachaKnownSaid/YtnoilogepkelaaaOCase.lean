/-
  Opening a case of layer 3's statements: a key, a counter, a nonce.
-/
import Derived.Test.YtnoilogepkelaaaOpen
import Derived.Test.YtnoilogepkelaaaLibC
namespace Go.Proofs.Ytnoilogepkelaaa
set_option linter.unusedVariables false
set_option linter.unusedSimpArgs false
open Go Go.RowKit Go.WideShapes Go.ChangeShapes

def caseC (key : List (BitVec 8)) (c : BitVec 32) (nonce : List (BitVec 8)) : List Value := bcells key ++ (.int .u32 (wv c) :: bcells nonce)
theorem tr_word {H : Type} {enc : TypeId × Value → H} {P : Program} {w : World} {fuel : Nat} {e : TypeId} {cs : List Value} {x : DataW H × List MemPlace} (he : P.underlying e = some (.int .u32)) (h : DataW.trod enc P w 0 (fun _ => true) true fuel e cs = some x) : ∃ b : BitVec 32, cs = [.int .u32 (wv b)] := by
  obtain ⟨n, rfl, _, hw⟩ := DataW.trod_int he h
  have hb : 0 ≤ n ∧ n ≤ 4294967295 := by simpa [Lit.wf, IntKind.min, IntKind.max, IntKind.bits, IntKind.signed] using hw
  obtain ⟨b, rfl⟩ := wv_of (n := n) (by omega) (by omega)
  exact ⟨b, rfl⟩
theorem open_case {H : Type} {enc : TypeId × Value → H} {W : World} {fuel : Nat} {cs : List Value} {x : DataW H × List MemPlace} (h : DataW.trod enc Try.prog W 0 (fun _ => true) true fuel 39 cs = some x) :
    ∃ (key : List (BitVec 8)) (c : BitVec 32) (nonce : List (BitVec 8)), cs = caseC key c nonce ∧ key.length = 32 ∧ nonce.length = 12 := by
  obtain ⟨ys, m, _, _, hl, hyl, hf⟩ := DataW.trod_struct Try.underlying39 h
  have k5 : Try.prog.cellsOf 5 = 1 := by kernel_rfl
  have kH : Try.prog.cellsOf 29 = 32 := by kernel_rfl
  have k3 : Try.prog.cellsOf 22 = 1 := by kernel_rfl
  have kN : Try.prog.cellsOf 31 = 12 := by kernel_rfl
  have kA : Try.prog.cellsOf 39 = 45 := by kernel_rfl
  rw [kA] at hl
  have g : ∀ i, i < 3 → ∃ y, ys[i]? = some y := fun i hi => ⟨_, List.getElem?_eq_getElem (by rw [hyl]; exact hi)⟩
  obtain ⟨y0, e0⟩ := g 0 (by omega)
  obtain ⟨y1, e1⟩ := g 1 (by omega)
  obtain ⟨y2, e2⟩ := g 2 (by omega)
  have f0 : DataW.trod enc Try.prog W 0 (fun _ => true) true m 29 ((cs.drop 0).take (Try.prog.cellsOf 29)) = ys[0]? := hf 0 _ rfl
  rw [kH, e0] at f0
  have f1 : DataW.trod enc Try.prog W 0 (fun _ => true) true m 22 ((cs.drop 32).take (Try.prog.cellsOf 22)) = ys[1]? := hf 1 _ rfl
  rw [k3, e1] at f1
  have f2 : DataW.trod enc Try.prog W 0 (fun _ => true) true m 31 ((cs.drop 33).take (Try.prog.cellsOf 31)) = ys[2]? := hf 2 _ rfl
  rw [kN, e2] at f2
  obtain ⟨key, hk, h0⟩ := tr_bytes Try.underlying29 Try.underlying5 k5 kH f0
  obtain ⟨c, h1⟩ := tr_word Try.underlying22 f1
  obtain ⟨nonce, hn, h2⟩ := tr_bytes Try.underlying31 Try.underlying5 k5 kN f2
  refine ⟨key, c, nonce, ?_, hk, hn⟩
  have e : cs = cs.drop 0 := rfl
  rw [e, cut_at cs 0 32, cut_at cs (0 + 32) 1, cut_at cs (0 + 32 + 1) 12, h0, h1, h2, List.drop_of_length_le (by omega)]
  simp [caseC]
end Go.Proofs.Ytnoilogepkelaaa
