/-
  chacha.Quarter: what it answers, any words.
-/
import Derived.Test.YtnoilogepkelaaaRot
import Derived.Test.YtnoilogepkelaaaChaSpec
import Derived.Test.YtnoilogepkelaaaMem
import Derived.Deep.QuietTactic
import Derived.BigQuiet
namespace Go.Proofs.Ytnoilogepkelaaa
set_option linter.unusedVariables false
set_option linter.unusedSimpArgs false
open Go Go.RowKit
attribute [local go_sem] u32_add u32_sub u32_xor u32_or u32_and' u32_shl u32_shr

def aggQ (q : Cha.Q) : Value := .agg #[.int .u32 (wv q.a), .int .u32 (wv q.b), .int .u32 (wv q.c), .int .u32 (wv q.d)]

theorem quarter_any (q : Cha.Q) (w : World) :
    Calls Try.prog 8 #[aggQ q] w fun e w' => e = .returned (aggQ (Cha.quarter q)) ∧ Below w.heap.size w w' := by
  obtain ⟨a, b, c, d⟩ := q
  have i0 : ∀ w, (Instr.index 52 (.agg #[.int .i64 16, .int .i64 12, .int .i64 8, .int .i64 7]) (.int .i64 0)).run Try.prog w = .ok (.agg #[.int .i64 16, .int .i64 12]) w := fun _ => by kernel_rfl
  have i1 : ∀ w, (Instr.index 52 (.agg #[.int .i64 16, .int .i64 12, .int .i64 8, .int .i64 7]) (.int .i64 1)).run Try.prog w = .ok (.agg #[.int .i64 8, .int .i64 7]) w := fun _ => by kernel_rfl
  unfold aggQ
  go_enter Try.func8, Try.ntmps8
  go_wp2
  go_quiet (fail)
  go_wp2
  refine wp_loop_rounds 3 ?_
  rw [rounds_succ]
  go_wp2_with (go_at_call 17; refine (rotl_any _ _ _).mono ?_; rintro e w' ⟨rfl, rfl⟩)
  rw [rounds_succ]
  go_wp2_with (go_at_call 17; refine (rotl_any _ _ _).mono ?_; rintro e w' ⟨rfl, rfl⟩)
  rw [rounds_succ]
  go_wp2
  refine bodyPost_ret (v := aggQ (Cha.quarter ⟨a, b, c, d⟩)) ?_ rfl ⟨rfl, ?_⟩
  · simp [results, Try.results8, go_sem, aggQ, Cha.quarter, Cha.half]
  · repeat (first | with_reducible exact Below.refl _ _ | with_reducible refine Below.drewN ?_ _ | with_reducible refine Below.alloc ?_ (by simp <;> omega) _ | with_reducible refine Below.setCell ?_ (by simp <;> omega) _)

theorem quarter_agg (a b c d : BitVec 32) (w : World) :
    Calls Try.prog 8 #[.agg #[.int .u32 (wv a), .int .u32 (wv b), .int .u32 (wv c), .int .u32 (wv d)]] w fun e w' =>
      e = .returned (.agg #[.int .u32 (wv (Cha.quarter ⟨a, b, c, d⟩).a), .int .u32 (wv (Cha.quarter ⟨a, b, c, d⟩).b), .int .u32 (wv (Cha.quarter ⟨a, b, c, d⟩).c), .int .u32 (wv (Cha.quarter ⟨a, b, c, d⟩).d)]) ∧ Below w.heap.size w w' :=
  quarter_any ⟨a, b, c, d⟩ w
end Go.Proofs.Ytnoilogepkelaaa
