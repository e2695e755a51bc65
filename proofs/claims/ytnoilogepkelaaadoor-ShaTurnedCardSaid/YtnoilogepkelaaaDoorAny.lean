/-
  Steps of a drawn region through laws on lists of operations; what is kept of a row of cells.
-/
import Derived.Test.YtnoilogepkelaaaDoorKept
import Derived.Deep.RegionHeld3
namespace Go.Proofs.YtnoilogepkelaaaDoor
set_option linter.unusedVariables false
set_option linter.unusedSimpArgs false
open Go Go.RowKit
section
variable {P : Program} {ops : Array Oper} {o : Oper} {a : Act} {w : World}
/-- What follows: K behind the operation, Q at a panic. -/
def orElse (K : Act → World → Prop) (Q : Exit → Act → World → Prop) : Exit → Act → World → Prop
  | .normal, a, w => K a w
  | .outgrown, _, _ => False
  | x, a, w => Q x a w
theorem wp_orElse {K : Act → World → Prop} {Q : Exit → Act → World → Prop} (h : Oper.wp P o a w K (orElse K Q)) : Oper.wp P o a w K Q := by
  unfold Oper.wp at h ⊢
  generalize (execOp a.eval o).run P w = r at *
  cases r with
  | ok n w' =>
    cases n <;> simp only [Oper.upon] at h ⊢
    case value u => exact h
    case skip => exact h
    case defer d => exact h
    case enter f args =>
      refine Calls.mono h fun e w'' he => ?_
      cases e with
      | returned u => exact he
      | panicked c => exact he
      | outgrown => exact he.elim fun _ h => h.elim fun _ h => h.elim
    case row r args => exact h
  | halt x w' =>
    cases x <;> simp only [Oper.upon] at h ⊢
    case panic u => exact h
/-- A step of a drawn region, by a law on the list of a plain region's operations. -/
theorem any_of_list {K : Act → World → Prop} {Q : Exit → Act → World → Prop} {E : Prop} (hw : Region.wanted o (yielded ops a.tmps) = true)
    (h : ∀ Q' : Exit → Act → World → Prop, (∀ a w, K a w → Q' .normal a w) → wpList P ops Q' [{ o with guard := none }] a w) : if Region.wanted o (yielded ops a.tmps) = true then Oper.wp P o a w K Q else E := by
  rw [if_pos hw]
  have h1 := h (orElse K Q) (fun _ _ h => h)
  unfold wpList at h1
  rw [if_pos (by simp [Region.wanted])] at h1
  have e : ∀ K Q, Oper.wp P { o with guard := none } a w K Q = Oper.wp P o a w K Q := fun _ _ => rfl
  rw [e] at h1
  exact h1.elim wp_orElse fun h2 => h2.2.elim fun _ h => h.elim fun _ h => h.elim
end
theorem rng_below {w w' : World} {B R o : Nat} {cs : List Value} (h : w.rangeAt R o cs) (hb : Below B w w') (hR : R < B) : w'.rangeAt R o cs :=
  fun j v hj => (World.cell?_of_block (a := ⟨R, o + j, none⟩) (hb.block R hR)).trans (h j v hj)
theorem rng_of_row (w : World) (R : Nat) (cs : Array Value) (t : TypeId) (fr : Nat × Nat) (h : w.heap[R]? = some (.cells cs t fr)) : w.rangeAt R 0 cs.toList :=
  fun j v hj => by rw [Nat.zero_add, cell_of_row w R j _ _ _ h, ← hj, Array.getElem?_toList]
theorem rng_grown {w w' : World} {R o : Nat} {cs : List Value} {row : Option Nat} (h : w.rangeAt R o cs) (hg : w.grownBy w' row) (hR : R < w.heap.size) (hne : row ≠ some R) : w'.rangeAt R o cs :=
  fun j v hj => (World.cell?_of_block (a := ⟨R, o + j, none⟩) (hg.block R hR (fun e => hne e.symm))).trans (h j v hj)
end Go.Proofs.YtnoilogepkelaaaDoor
