/-
  chacha.Quarter: what it answers, any words.
-/
import Derived.Test.YtnoilogepkelaaaRot
import Derived.Test.YtnoilogepkelaaaChaSpec
import Derived.Test.YtnoilogepkelaaaMem
import Derived.Deep.QuietTactic
import Derived.BigQuiet
namespace Go.Proofs.Ytnoilogepkelaaa
open Go Go.RowKit
attribute [local go_sem high] u32_add u32_sub u32_xor u32_or u32_and' u32_shl u32_shr

def aggQ (q : Cha.Q) : Value := .agg #[.int .u32 (wv q.a), .int .u32 (wv q.b), .int .u32 (wv q.c), .int .u32 (wv q.d)]

theorem quarter_any (q : Cha.Q) (w : World) :
    Calls Try.prog 8 #[aggQ q] w fun e w' => e = .returned (aggQ (Cha.quarter q)) ∧ Below w.heap.size w w' := by
  obtain ⟨a, b, c, d⟩ := q
  have i0 : ∀ w, (Instr.index 52 (.agg #[.int .i64 16, .int .i64 12, .int .i64 8, .int .i64 7]) (.int .i64 0)).run Try.prog w = .ok (.agg #[.int .i64 16, .int .i64 12]) w := fun _ => by kernel_rfl
  have i1 : ∀ w, (Instr.index 52 (.agg #[.int .i64 16, .int .i64 12, .int .i64 8, .int .i64 7]) (.int .i64 1)).run Try.prog w = .ok (.agg #[.int .i64 8, .int .i64 7]) w := fun _ => by kernel_rfl
  unfold aggQ
  go_enter Try.func8, Try.ntmps8
  go_wp2
  go_quiet (fail)
  go_wp2
  refine wp_loop_rounds 3 ?_
  rw [rounds_succ]
  go_wp2_with (go_at_call 17; refine (rotl_any _ _ _).mono ?_; rintro e w' ⟨rfl, rfl⟩)
  rw [rounds_succ]
  go_wp2_with (go_at_call 17; refine (rotl_any _ _ _).mono ?_; rintro e w' ⟨rfl, rfl⟩)
  rw [rounds_succ]
  go_wp2
  refine bodyPost_ret (v := aggQ (Cha.quarter ⟨a, b, c, d⟩)) ?_ rfl ⟨rfl, ?_⟩
  · simp [results, Try.results8, go_sem, aggQ, Cha.quarter, Cha.half]
  · repeat (first | with_reducible exact Below.refl _ _ | with_reducible refine Below.drewN ?_ _ | with_reducible refine Below.alloc ?_ (by simp <;> omega) _ | with_reducible refine Below.setCell ?_ (by simp <;> omega) _)
end Go.Proofs.Ytnoilogepkelaaa
