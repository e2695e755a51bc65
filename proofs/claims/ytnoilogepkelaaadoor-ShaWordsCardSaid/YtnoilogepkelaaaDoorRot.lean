/-
  math/bits.RotateLeft32: a word turned left, any count.
-/
import Derived.Test.YtnoilogepkelaaaDoorChecked
import Derived.Test.YtnoilogepkelaaaDoorU32
namespace Go.Proofs.YtnoilogepkelaaaDoor
set_option linter.unusedVariables false
set_option linter.unusedSimpArgs false
open Go Go.RowKit
attribute [local go_sem] u32_add u32_sub u32_xor u32_or u32_and' u32_shl u32_shr

theorem rotl_any (x : BitVec 32) (k : Int) (w : World) :
    Calls Tryd.prog 87 #[.int .u32 (wv x), .int .i64 k] w fun e w' => e = .returned (.int .u32 (wv (x.rotateLeft (k % 32).toNat))) ∧ w = w' := by
  have hr := rot_count k
  have hlt : (k % 32).toNat < 32 := by omega
  generalize (k % 32).toNat = n at hr hlt ⊢
  have he := rot_eq x n hlt
  have HE : Hid (x.rotateLeft n = (x <<< n) ||| (x >>> (32 - n))) := he
  clear he
  go_enter Tryd.func87, Tryd.ntmps87
  go_wp2
  go_ret
  refine ⟨ret_int ?_, rfl⟩
  rw [HE.out]
end Go.Proofs.YtnoilogepkelaaaDoor
