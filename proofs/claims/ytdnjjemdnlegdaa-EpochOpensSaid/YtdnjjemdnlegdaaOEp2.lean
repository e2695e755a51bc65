/-
  The law EpochOpens, as its row wants it.
-/
import Derived.Test.YtdnjjemdnlegdaaOpen
import Derived.Test.YtdnjjemdnlegdaaEl2
namespace Go.Proofs.Ytdnjjemdnlegdaa
open Go Go.RowKit

theorem int_wf {n : Int} (h : (Lit.int .i64 n).wf = true) : -9223372036854775808 ≤ n ∧ n ≤ 9223372036854775807 := by
  simpa [Lit.wf, IntKind.min, IntKind.max, IntKind.bits, IntKind.signed] using h
theorem row_epochOpens {w : World} (v : Value) (xs : List (BitVec 8)) (hs : SlB w v xs) (fr : Int) (hf : (Lit.int .i64 fr).wf = true) (sectors : Int) (hn : (Lit.int .i64 sectors).wf = true) :
    Calls Try.prog 10 #[v, .int .i64 fr, .int .i64 sectors] w fun e w' => e = .returned (.bool true) ∧ Below w.heap.size w w' :=
  law_epochOpens v xs fr sectors w hs (int_wf hf).1 (int_wf hf).2 (int_wf hn).1 (int_wf hn).2
end Go.Proofs.Ytdnjjemdnlegdaa
