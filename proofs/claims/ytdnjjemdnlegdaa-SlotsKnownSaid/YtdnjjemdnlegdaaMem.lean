/-
  Blocks of memory known whole: what reads and writes of them come to; over any program.
-/
import Derived.WalkKit
import Derived.Laws.Rows
import Derived.Lib.Hide
import Derived.ChangeKeysEq
import Derived.Deep.WholeRow
import Derived.Deep.QuietTactic
import Derived.BigQuiet
namespace Go.Proofs.Ytdnjjemdnlegdaa
set_option linter.unusedVariables false
set_option linter.unusedSimpArgs false
open Go Go.RowKit

section
variable {P : Program}

/-- 'arr[i]' of an array's value whose elements are one cell each. -/
theorem run_index_row {T E n : Nat} {dE : TypeDesc} (hT : P.underlying T = some (.array n E)) (hE : P.underlying E = some dE)
    (hd : (match dE with | .struct _ | .array _ _ => true | _ => false) = false) (hi : (P.info? E).map (·.size) = some 1)
    (cs : Array Value) (hn : cs.size = n) (i : Int) (h0 : 0 ≤ i) (h1 : i < n) (w : World) :
    (Instr.index T (.agg cs) (.int .i64 i)).run P w = .ok (cs.getD i.toNat undef) w := by
  obtain ⟨info, hinfo, hsz⟩ : ∃ info, P.info? E = some info ∧ info.size = 1 := by
    cases h : P.info? E with
    | none => simp [h] at hi
    | some x => exact ⟨x, rfl, by simpa [h] using hi⟩
  have hlt : i.toNat < cs.size := by omega
  cases dE <;> simp at hd <;> simp [Instr.index, asIntOf, underlying, hT, hE, h0, h1, sizeOf, typeInfo, program, hinfo, hsz, part, isAgg, Array.getElem?_eq_getElem hlt, Sem.run, go_sem]

/-- Cells of one integer kind. -/
def ints (k : IntKind) (xs : List Int) : Array Value := (xs.map (Value.int k)).toArray
theorem ints_size (k : IntKind) (xs : List Int) : (ints k xs).size = xs.length := by simp [ints]
theorem ints_get (k : IntKind) (xs : List Int) (i : Nat) (h : i < xs.length) : (ints k xs).getD i undef = .int k (xs.getD i 0) := by
  simp [ints, h]
theorem ints_get? (k : IntKind) (xs : List Int) (i : Nat) (h : i < xs.length) : (ints k xs)[i]? = some (.int k (xs.getD i 0)) := by
  simp [ints, h]
theorem ints_set (k : IntKind) (xs : List Int) (i : Nat) (x : Int) : (ints k xs).setIfInBounds i (.int k x) = ints k (xs.set i x) := by
  simp [ints, List.map_set]

theorem all_getD_eq : ∀ (xs ys : List Int), xs.length = ys.length → ((List.range xs.length).all fun i => xs.getD i 0 == ys.getD i 0) = (xs == ys)
  | [], [], _ => rfl
  | x :: xs, y :: ys, h => by
    have ih := all_getD_eq xs ys (by simpa using h)
    rw [List.length_cons, List.range_succ_eq_map, List.all_cons, List.all_map]
    simp only [List.getD_cons_zero, Function.comp_def, List.getD_cons_succ, ih]
    simp [List.cons_beq_cons]
  | [], _ :: _, h => by simp at h
  | _ :: _, [], h => by simp at h

/-- '==' on arrays of integers. -/
theorem run_equalIn_ints {T E n : Nat} {k : IntKind} (hT : P.underlying T = some (.array n E)) (hE : P.underlying E = some (.int k)) (hi : (P.info? E).map (·.size) = some 1)
    (xs ys : List Int) (hx : xs.length = n) (hy : ys.length = n) (w : World) :
    (Op.equalIn 10000 T (.agg (ints k xs)) (.agg (ints k ys))).run P w = .ok (xs == ys) w := by
  obtain ⟨info, hinfo, hsz⟩ : ∃ info, P.info? E = some info ∧ info.size = 1 := by
    cases h : P.info? E with
    | none => simp [h] at hi
    | some x => exact ⟨x, rfl, by simpa [h] using hi⟩
  have hone : P.cellsOf E = 1 := by simp [Program.cellsOf, hinfo, hsz]
  rw [show 10000 = 9998 + 2 from rfl, run_equalIn_array w _ _ _ hT hinfo, hone, ← all_getD_eq xs ys (hx.trans hy.symm), hx]
  have hl : ∀ i ∈ List.range n, i < n := fun i hi => List.mem_range.1 hi
  generalize List.range n = l at hl ⊢
  have key : (Op.eqItems (9998 + 1) E 1 (ints k xs) (ints k ys) l).run P w = .ok (l.all fun i => xs.getD i 0 == ys.getD i 0) w := by
    induction l with
    | nil => simp [Op.eqItems]
    | cons i l ih =>
      have hi : i < n := hl i (by simp)
      have px : (part E (ints k xs) (i * 1)).run P w = .ok (.int k (xs.getD i 0)) w := by
        simp [part, isAgg, run_underlying hE, ints_get? k xs i (by omega)]
      have py : (part E (ints k ys) (i * 1)).run P w = .ok (.int k (ys.getD i 0)) w := by
        simp [part, isAgg, run_underlying hE, ints_get? k ys i (by omega)]
      have pe := run_equalIn_int w 9998 E k k (xs.getD i 0) (ys.getD i 0) hE
      simp only [Op.eqItems, Sem.run_bind, px, py, pe, Result.andThen_ok, List.all_cons]
      cases hb : (xs.getD i 0 == ys.getD i 0)
      · simp
      · simp only [Bool.not_true, Bool.false_eq_true, if_false, Bool.true_and]
        exact ih fun j hj => hl j (by simp [hj])
  exact key
end

theorem Below.drewN {B : Nat} {a w : World} (h : Below B a w) (n : Nat) : Below B a (w.drewN n) := ⟨h.os, h.tape, h.output, h.size, h.block⟩

/-- Behind a contract that ends in Below: every old cell and every old mark reads as before (two rules for the walk). -/
theorem bcell {W w1 : World} (hb : Below W.heap.size W w1) : (∀ b o, b < W.heap.size → w1.cell? ⟨b, o, none⟩ = W.cell? ⟨b, o, none⟩) ∧ (∀ b o, b < W.heap.size → w1.frozen? ⟨b, o, none⟩ = W.frozen? ⟨b, o, none⟩) :=
  ⟨fun b o h => hb.cell (p := ⟨b, o, none⟩) h, fun b o h => hb.frozen (p := ⟨b, o, none⟩) h⟩

theorem grownBy_below {w wr w' : World} {row : Option Nat} {B : Nat} (h : w.grownBy wr row) (hb : Below B wr w') (hB : wr.heap.size ≤ B) : w.grownBy w' row :=
  ⟨hb.os.trans h.os, hb.tape.trans h.tape, hb.output.trans h.output, Nat.le_trans h.size hb.size, fun k hk hne => (hb.block k (by have := h.size; omega)).trans (h.block k hk hne)⟩
theorem grownBy_setCell {w wr : World} {b o : Nat} {s : Option Nat} (h : w.grownBy wr (some b)) (v : Value) : w.grownBy (wr.setCell ⟨b, o, s⟩ v) (some b) :=
  ⟨h.os, h.tape, h.output, by simpa [World.setCell] using h.size, fun k hk hne => (heap_setCell_other wr ⟨b, o, s⟩ k v (by simpa using hne)).trans (h.block k hk hne)⟩
theorem grownBy_drew {w wr : World} {row : Option Nat} (h : w.grownBy wr row) : w.grownBy wr.drew row := ⟨h.os, h.tape, h.output, h.size, h.block⟩
theorem grownBy_drewN {w wr : World} {row : Option Nat} (h : w.grownBy wr row) (n : Nat) : w.grownBy (wr.drewN n) row := ⟨h.os, h.tape, h.output, h.size, h.block⟩
theorem heapA_old (w : World) (o : Obj) (i : Nat) (h : i < w.heap.size) : (w.alloc o).heap[i]? = w.heap[i]? := Below.heap_alloc w o i h
theorem heapA_new (w : World) (o : Obj) (i : Nat) (h : i = w.heap.size) : (w.alloc o).heap[i]? = some o := by subst h; exact heap_alloc_new w o
/-- Three new blocks, one behind the other. -/
theorem alloc3 (w : World) (a b c : Obj) : ∃ W, ((w.alloc a).alloc b).alloc c = W ∧ Below w.heap.size w W ∧ W.heap.size = w.heap.size + 3 ∧ W.heap[w.heap.size]? = some a ∧ W.heap[w.heap.size + 1]? = some b ∧ W.heap[w.heap.size + 2]? = some c := by
  refine ⟨_, rfl, (((Below.refl _ w).alloc (Nat.le_refl _) _).alloc (by simp) _).alloc (by simp <;> omega) _, by simp, ?_, ?_, ?_⟩
  · rw [heapA_old _ _ _ (by simp <;> omega), heapA_old _ _ _ (by simp), heapA_new _ _ _ rfl]
  · rw [heapA_old _ _ _ (by simp), heapA_new _ _ _ (by simp)]
  · rw [heapA_new _ _ _ (by simp)]
/-- Two new blocks. -/
theorem alloc2 (w : World) (a b : Obj) : ∃ W, (w.alloc a).alloc b = W ∧ Below w.heap.size w W ∧ W.heap.size = w.heap.size + 2 ∧ W.heap[w.heap.size]? = some a ∧ W.heap[w.heap.size + 1]? = some b := by
  refine ⟨_, rfl, ((Below.refl _ w).alloc (Nat.le_refl _) _).alloc (by simp) _, by simp, ?_, ?_⟩
  · rw [heapA_old _ _ _ (by simp), heapA_new _ _ _ rfl]
  · rw [heapA_new _ _ _ (by simp)]
/-- One new block. -/
theorem alloc1 (w : World) (a : Obj) : ∃ W, w.alloc a = W ∧ Below w.heap.size w W ∧ W.heap.size = w.heap.size + 1 ∧ W.heap[w.heap.size]? = some a :=
  ⟨_, rfl, (Below.refl _ w).alloc (Nat.le_refl _) _, by simp, heapA_new _ _ _ rfl⟩

/-- The run-time's mark behind a block's last cell (a constant text turned into bytes). -/
def mark (w : World) (b n : Nat) : World := w.freeze ⟨b, n, none⟩ 1
theorem shape?_at (w : World) (c : Array Value) (t : TypeId) (n : Nat) (h : n = w.heap.size) : (w.alloc (.cells c t)).shape? n = some (t, c.size) := by
  unfold World.shape?
  rw [heapA_new _ _ _ h]
theorem shape?_past (w : World) (o : Obj) (n : Nat) (h : n < w.heap.size) : (w.alloc o).shape? n = w.shape? n := by
  unfold World.shape?
  rw [heapA_old _ _ _ h]
theorem mark_drew (w : World) (b n : Nat) : mark w.drew b n = (mark w b n).drew := rfl
theorem mark_size (w : World) (b n : Nat) : (mark w b n).heap.size = w.heap.size := by simp [mark, World.freeze]
theorem mark_other (w : World) (b n k : Nat) (h : k ≠ b) : (mark w b n).heap[k]? = w.heap[k]? := by
  simp only [mark, World.freeze, Nat.one_ne_zero, if_false, Array.getElem?_modify]
  rw [if_neg (fun e => h e.symm)]
theorem mark_same (w : World) (b n : Nat) (c : Array Value) (t : TypeId) (h : w.heap[b]? = some (.cells c t (0, 0))) : (mark w b n).heap[b]? = some (.cells c t (n, n + 1)) := by
  simp [mark, World.freeze, Array.getElem?_modify, h]
theorem mark_cell (w : World) (b n : Nat) (a : Addr) : (mark w b n).cell? a = w.cell? a := by
  unfold World.cell?
  by_cases h : a.block = b
  · simp only [mark, World.freeze, Nat.one_ne_zero, if_false, Array.getElem?_modify]
    rw [if_pos h.symm]
    cases w.heap[a.block]? with
    | none => rfl
    | some o => cases o <;> rfl
  · rw [mark_other _ _ _ _ h]
theorem Below.mark {B : Nat} {w w' : World} (h : Below B w w') (b n : Nat) (hb : B ≤ b) : Below B w (mark w' b n) :=
  ⟨h.os, h.tape, h.output, by rw [mark_size]; exact h.size, fun k hk => (mark_other w' b n k (by omega)).trans (h.block k hk)⟩
/-- The same, where the block says how many cells it has. -/
def markS (w : World) (b : Nat) : World := mark w b (((w.shape? b).map (·.2)).getD 0)
theorem markS_drew (w : World) (b : Nat) : markS w.drew b = (markS w b).drew := rfl
theorem markS_size (w : World) (b : Nat) : (markS w b).heap.size = w.heap.size := mark_size _ _ _
theorem markS_cell (w : World) (b : Nat) (a : Addr) : (markS w b).cell? a = w.cell? a := mark_cell _ _ _ _
theorem markS_other (w : World) (b k : Nat) (h : k ≠ b) : (markS w b).heap[k]? = w.heap[k]? := mark_other _ _ _ _ h
theorem Below.markS {B : Nat} {w w' : World} (h : Below B w w') (b : Nat) (hb : B ≤ b) : Below B w (markS w' b) := Below.mark h b _ hb
theorem run_convert_same {P : Program} (w : World) (t e : TypeId) (b o n c : Nat) (ht : P.underlying t = some (.slice e)) (he : P.underlying e = some (.int .u8)) (hs : (w.shape? b).isSome = true) :
    (convert t t (.slice (some ⟨b, o, none⟩) n c)).run P w = .ok (.slice (some ⟨b, o, none⟩) n c) (markS w b) := by
  obtain ⟨⟨e', N⟩, hN⟩ := Option.isSome_iff_exists.1 hs
  simp [convert, run_underlying ht, run_underlying he, markStringish, hN, markS]
  rfl

/-- A list that is filled from its beginning on. -/
def fill {α : Type} (f : Nat → α) (z : α) (n k : Nat) : List α := (List.range k).map f ++ List.replicate (n - k) z
theorem fill_zero {α : Type} (f : Nat → α) (z : α) (n : Nat) : fill f z n 0 = List.replicate n z := by simp [fill]
theorem fill_length {α : Type} (f : Nat → α) (z : α) (n k : Nat) (h : k ≤ n) : (fill f z n k).length = n := by simp [fill]; omega
theorem fill_all {α : Type} (f : Nat → α) (z : α) (n : Nat) : fill f z n n = (List.range n).map f := by simp [fill]
theorem fill_set {α : Type} (f : Nat → α) (z : α) (n k : Nat) (h : k < n) : (fill f z n k).set k (f k) = fill f z n (k + 1) := by
  unfold fill
  rw [List.range_succ, List.map_append, List.append_assoc, List.set_append_right _ _ (by simp)]
  congr 1
  rw [show n - k = (n - (k + 1)) + 1 by omega, List.replicate_succ]
  simp
theorem fill_getD {α : Type} (f : Nat → α) (z d : α) (n k j : Nat) (h : j < k) : (fill f z n k).getD j d = f j := by
  simp [fill, List.getD, List.getElem?_append, h]
theorem fill_rest {α : Type} (f : Nat → α) (z d : α) (n k j : Nat) (h : k ≤ j) (hj : j < n) : (fill f z n k).getD j d = z := by
  simp [fill, List.getD, List.getElem?_append, Nat.not_lt.2 h]
  rw [List.getElem?_replicate, if_pos (by omega)]
  rfl
theorem setRow_at (w : World) (c c' : Array Value) (t : TypeId) (n : Nat) (h : n = w.heap.size) : (w.alloc (.cells c t)).setRow n c' = w.alloc (.cells c' t) := by
  subst h; exact World.setRow_alloc_new w c c' t
end Go.Proofs.Ytdnjjemdnlegdaa
