/-
  The arguments of HmacEqual, opened.
-/
import Derived.Test.YtnoilogepkelaaaDoorHmaL2
import Derived.Test.YtnoilogepkelaaaDoorOpen
namespace Go.Proofs.YtnoilogepkelaaaDoor
open Go Go.RowKit
theorem row_hmacEqual {w : World} (v0 : Value) (x0 : List (BitVec 8)) (h0 : SlB w v0 x0) (at_ : Int) (h : (Lit.int .u16 at_).wf = true) (m : BitVec 8) (hG : Glob w) :
    Calls Tryd.prog 12 #[v0, .int .u16 at_, .int .u8 (bv m)] w fun e w' => e = .returned (.bool true) ∧ Below w.heap.size w w' := by
  have hb : 0 ≤ at_ ∧ at_ ≤ 65535 := by simpa [Lit.wf, IntKind.min, IntKind.max, IntKind.bits, IntKind.signed] using h
  exact law_hmacEqual v0 x0 h0 at_ hb.1 (by omega) m hG
end Go.Proofs.YtnoilogepkelaaaDoor
