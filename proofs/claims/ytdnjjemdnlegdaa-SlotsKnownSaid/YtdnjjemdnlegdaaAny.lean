/-
  Steps of a drawn region through laws on lists of operations; what is kept of a row of cells.
-/
import Derived.Test.YtdnjjemdnlegdaaKept
import Derived.Deep.RegionHeld3
namespace Go.Proofs.Ytdnjjemdnlegdaa
set_option linter.unusedVariables false
set_option linter.unusedSimpArgs false
open Go Go.RowKit
section
variable {P : Program} {ops : Array Oper} {o : Oper} {a : Act} {w : World}
/-- What follows: K behind the operation, Q at a panic. -/
def orElse (K : Act → World → Prop) (Q : Exit → Act → World → Prop) : Exit → Act → World → Prop
  | .normal, a, w => K a w
  | .outgrown, _, _ => False
  | x, a, w => Q x a w
theorem wp_orElse {K : Act → World → Prop} {Q : Exit → Act → World → Prop} (h : Oper.wp P o a w K (orElse K Q)) : Oper.wp P o a w K Q := by
  unfold Oper.wp at h ⊢
  generalize (execOp a.eval o).run P w = r at *
  cases r with
  | ok n w' =>
    cases n <;> simp only [Oper.upon] at h ⊢
    case value u => exact h
    case skip => exact h
    case defer d => exact h
    case enter f args =>
      refine Calls.mono h fun e w'' he => ?_
      cases e with
      | returned u => exact he
      | panicked c => exact he
      | outgrown => exact he.elim fun _ h => h.elim fun _ h => h.elim
    case row r args => exact h
  | halt x w' =>
    cases x <;> simp only [Oper.upon] at h ⊢
    case panic u => exact h
/-- A step of a drawn region, by a law on the list of a plain region's operations. -/
theorem any_of_list {K : Act → World → Prop} {Q : Exit → Act → World → Prop} {E : Prop} (hw : Region.wanted o (yielded ops a.tmps) = true)
    (h : ∀ Q' : Exit → Act → World → Prop, (∀ a w, K a w → Q' .normal a w) → wpList P ops Q' [{ o with guard := none }] a w) : if Region.wanted o (yielded ops a.tmps) = true then Oper.wp P o a w K Q else E := by
  rw [if_pos hw]
  have h1 := h (orElse K Q) (fun _ _ h => h)
  unfold wpList at h1
  rw [if_pos (by simp [Region.wanted])] at h1
  have e : ∀ K Q, Oper.wp P { o with guard := none } a w K Q = Oper.wp P o a w K Q := fun _ _ => rfl
  rw [e] at h1
  exact h1.elim wp_orElse fun h2 => h2.2.elim fun _ h => h.elim fun _ h => h.elim
end
theorem rng_below {w w' : World} {B R o : Nat} {cs : List Value} (h : w.rangeAt R o cs) (hb : Below B w w') (hR : R < B) : w'.rangeAt R o cs :=
  fun j v hj => (World.cell?_of_block (a := ⟨R, o + j, none⟩) (hb.block R hR)).trans (h j v hj)
theorem rng_of_row (w : World) (R : Nat) (cs : Array Value) (t : TypeId) (fr : Nat × Nat) (h : w.heap[R]? = some (.cells cs t fr)) : w.rangeAt R 0 cs.toList :=
  fun j v hj => by rw [Nat.zero_add, cell_of_row w R j _ _ _ h, ← hj, Array.getElem?_toList]
theorem rng_grown {w w' : World} {R o : Nat} {cs : List Value} {row : Option Nat} (h : w.rangeAt R o cs) (hg : w.grownBy w' row) (hR : R < w.heap.size) (hne : row ≠ some R) : w'.rangeAt R o cs :=
  fun j v hj => (World.cell?_of_block (a := ⟨R, o + j, none⟩) (hg.block R hR (fun e => hne e.symm))).trans (h j v hj)
theorem rng_bel {w w' : World} {R : Nat} {cs : Array Value} {t : TypeId} {fr : Nat × Nat} (h : w.heap[R]? = some (.cells cs t fr)) (hb : Below w.heap.size w w') : w'.rangeAt R 0 cs.toList :=
  rng_of_row w' R cs t fr ((hb.block R (Array.getElem?_eq_some_iff.1 h).1).trans h)
theorem bytes_bcells (L : List (BitVec 8)) : (bcells L ++ []).toArray = bytes L := by simp [bytes, bcells, byteV]
section
variable {P : Program}
/-- copy(arr[:], s): into an array known whole. -/
theorem wpList_copy_arr {ops : Array Oper} {rest : List Oper} {o : Oper} {a : Act} {w : World} {Q : Exit → Act → World → Prop} (hgd : o.guard = none) (d s : Operand) (T E : TypeId)
    (ho : o.op = .call { callee := .builtin .copy, args := #[d, s], argTypes := #[T, T] }) (hu : P.underlying T = some (.slice E)) (hsz : (P.info? E).map (·.size) = some 1)
    (g dLen dCap : Nat) (u : Value) (ys : List (BitVec 8)) (hd : a.eval d = .slice (some ⟨g, 0, none⟩) dLen dCap) (hs : a.eval s = u) (hsl : SlB w u ys)
    (L : List (BitVec 8)) (t : TypeId) (hg : w.heap[g]? = some (.cells (bytes L) t (0, 0))) (hfit : dLen = L.length)
    (h : wpList P ops Q rest (a.put o.dst (goInt (Nat.min ys.length dLen))) (w.setRow g (bytes (ys.take L.length ++ L.drop ys.length)))) : wpList P ops Q (o :: rest) a w := by
  refine wpList_copy_b hgd d s T E ho hu hsz g 0 dLen dCap u ys hd hs hsl L [] t (by rw [bytes_bcells]; exact hg) (by omega) ?_
  rw [bytes_bcells, hfit]
  rw [hfit] at h
  have e : splice L 0 (ys.take L.length) = ys.take L.length ++ L.drop ys.length := by
    simp only [splice, List.take_zero, List.nil_append, Nat.zero_add]
    congr 1
    rw [List.length_take]
    by_cases hc : L.length ≤ ys.length
    · rw [List.drop_of_length_le (by omega), List.drop_of_length_le (by omega)]
    · rw [Nat.min_eq_right (by omega)]
  rw [e]
  exact h
end
end Go.Proofs.Ytdnjjemdnlegdaa
