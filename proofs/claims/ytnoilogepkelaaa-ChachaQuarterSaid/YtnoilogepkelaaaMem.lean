/-
  Blocks of memory known whole: what reads and writes of them come to; over any program.
-/
import Derived.WalkKit
import Derived.Laws.Rows
import Derived.Lib.Hide
import Derived.ChangeKeysEq
import Derived.Deep.QuietTactic
import Derived.BigQuiet
namespace Go.Proofs.Ytnoilogepkelaaa
open Go Go.RowKit

section
variable {P : Program}

/-- 'arr[i]' of an array's value whose elements are one cell each. -/
theorem run_index_row {T E n : Nat} {dE : TypeDesc} (hT : P.underlying T = some (.array n E)) (hE : P.underlying E = some dE)
    (hd : (match dE with | .struct _ | .array _ _ => true | _ => false) = false) (hi : (P.info? E).map (·.size) = some 1)
    (cs : Array Value) (hn : cs.size = n) (i : Int) (h0 : 0 ≤ i) (h1 : i < n) (w : World) :
    (Instr.index T (.agg cs) (.int .i64 i)).run P w = .ok (cs.getD i.toNat undef) w := by
  obtain ⟨info, hinfo, hsz⟩ : ∃ info, P.info? E = some info ∧ info.size = 1 := by
    cases h : P.info? E with
    | none => simp [h] at hi
    | some x => exact ⟨x, rfl, by simpa [h] using hi⟩
  have hlt : i.toNat < cs.size := by omega
  cases dE <;> simp at hd <;> simp [Instr.index, asIntOf, underlying, hT, hE, h0, h1, sizeOf, typeInfo, program, hinfo, hsz, part, isAgg, Array.getElem?_eq_getElem hlt, Sem.run, go_sem]

/-- Cells of one integer kind. -/
def ints (k : IntKind) (xs : List Int) : Array Value := (xs.map (Value.int k)).toArray
theorem ints_size (k : IntKind) (xs : List Int) : (ints k xs).size = xs.length := by simp [ints]
theorem ints_get (k : IntKind) (xs : List Int) (i : Nat) (h : i < xs.length) : (ints k xs).getD i undef = .int k (xs.getD i 0) := by
  simp [ints, h]
theorem ints_get? (k : IntKind) (xs : List Int) (i : Nat) (h : i < xs.length) : (ints k xs)[i]? = some (.int k (xs.getD i 0)) := by
  simp [ints, h]
theorem ints_set (k : IntKind) (xs : List Int) (i : Nat) (x : Int) : (ints k xs).setIfInBounds i (.int k x) = ints k (xs.set i x) := by
  simp [ints, List.map_set]

theorem all_getD_eq : ∀ (xs ys : List Int), xs.length = ys.length → ((List.range xs.length).all fun i => xs.getD i 0 == ys.getD i 0) = (xs == ys)
  | [], [], _ => rfl
  | x :: xs, y :: ys, h => by
    have ih := all_getD_eq xs ys (by simpa using h)
    rw [List.length_cons, List.range_succ_eq_map, List.all_cons, List.all_map]
    simp only [List.getD_cons_zero, Function.comp_def, List.getD_cons_succ, ih]
    simp [List.cons_beq_cons]
  | [], _ :: _, h => by simp at h
  | _ :: _, [], h => by simp at h

/-- '==' on arrays of integers. -/
theorem run_equalIn_ints {T E n : Nat} {k : IntKind} (hT : P.underlying T = some (.array n E)) (hE : P.underlying E = some (.int k)) (hi : (P.info? E).map (·.size) = some 1)
    (xs ys : List Int) (hx : xs.length = n) (hy : ys.length = n) (w : World) :
    (Op.equalIn 10000 T (.agg (ints k xs)) (.agg (ints k ys))).run P w = .ok (xs == ys) w := by
  obtain ⟨info, hinfo, hsz⟩ : ∃ info, P.info? E = some info ∧ info.size = 1 := by
    cases h : P.info? E with
    | none => simp [h] at hi
    | some x => exact ⟨x, rfl, by simpa [h] using hi⟩
  have hone : P.cellsOf E = 1 := by simp [Program.cellsOf, hinfo, hsz]
  rw [show 10000 = 9998 + 2 from rfl, run_equalIn_array w _ _ _ hT hinfo, hone, ← all_getD_eq xs ys (hx.trans hy.symm), hx]
  have hl : ∀ i ∈ List.range n, i < n := fun i hi => List.mem_range.1 hi
  generalize List.range n = l at hl ⊢
  have key : (Op.eqItems (9998 + 1) E 1 (ints k xs) (ints k ys) l).run P w = .ok (l.all fun i => xs.getD i 0 == ys.getD i 0) w := by
    induction l with
    | nil => simp [Op.eqItems]
    | cons i l ih =>
      have hi : i < n := hl i (by simp)
      have px : (part E (ints k xs) (i * 1)).run P w = .ok (.int k (xs.getD i 0)) w := by
        simp [part, isAgg, run_underlying hE, ints_get? k xs i (by omega)]
      have py : (part E (ints k ys) (i * 1)).run P w = .ok (.int k (ys.getD i 0)) w := by
        simp [part, isAgg, run_underlying hE, ints_get? k ys i (by omega)]
      have pe := run_equalIn_int w 9998 E k k (xs.getD i 0) (ys.getD i 0) hE
      simp only [Op.eqItems, Sem.run_bind, px, py, pe, Result.andThen_ok, List.all_cons]
      cases hb : (xs.getD i 0 == ys.getD i 0)
      · simp
      · simp only [Bool.not_true, Bool.false_eq_true, if_false, Bool.true_and]
        exact ih fun j hj => hl j (by simp [hj])
  exact key
end

theorem Below.drewN {B : Nat} {a w : World} (h : Below B a w) (n : Nat) : Below B a (w.drewN n) := ⟨h.os, h.tape, h.output, h.size, h.block⟩
end Go.Proofs.Ytnoilogepkelaaa
