/-
  The law EpochCounts, as its row wants it.
-/
import Derived.Test.YtdnjjemdnlegdaaOpen
import Derived.Test.YtdnjjemdnlegdaaEc3
namespace Go.Proofs.Ytdnjjemdnlegdaa
open Go Go.RowKit

theorem u16_wf {n : Int} (h : (Lit.int .u16 n).wf = true) : 0 ≤ n ∧ n ≤ 65535 := by
  simpa [Lit.wf, IntKind.min, IntKind.max, IntKind.bits, IntKind.signed] using h
theorem row_epochCounts {w : World} (x : Int) (hx : (Lit.int .u16 x).wf = true) (s : BitVec 8) :
    Calls Try.prog 11 #[.int .u16 x, .int .u8 (bv s)] w fun e w' => e = .returned (.bool true) ∧ Below w.heap.size w w' :=
  law_epochCounts x (u16_wf hx).1 (u16_wf hx).2 s w
end Go.Proofs.Ytdnjjemdnlegdaa
