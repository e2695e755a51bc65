/-
  The texts of a log: one more.
-/
import Derived.WalkKit
import Derived.Laws.Rows
import Derived.Lib.Hide
import Derived.ChangeKeysEq
import Derived.Deep.WholeRow
import Derived.Deep.QuietTactic
import Derived.BigQuiet
import Derived.ProofKit
import Derived.OpenShut
import Derived.ShutString
import Derived.ChangeOld
import Derived.Laws.AppendOwnNone
import Derived.Deep.Slices
import Derived.Laws.CopyOwn
import Derived.Laws.MakeOwn
import Derived.Laws.Tables
import Derived.Test.YtdnjjemdnlegdaaChecked
import Derived.WalkSpells
import Derived.Deep.RegionWith
import Derived.Deep.DeepCutAuto
import Derived.Deep.RegionHeld3
import Derived.Deep.MidRow
import Derived.IntWalk
import Derived.Lib.AppendZeros
import Derived.Maps.AppendAt
namespace Go.Proofs.Ytdnjjemdnlegdaa
set_option linter.unusedVariables false
set_option linter.unusedSimpArgs false
open Go Go.RowKit

section
variable {P : Program}

/-- 'arr[i]' of an array's value whose elements are one cell each. -/
theorem run_index_row {T E n : Nat} {dE : TypeDesc} (hT : P.underlying T = some (.array n E)) (hE : P.underlying E = some dE)
    (hd : (match dE with | .struct _ | .array _ _ => true | _ => false) = false) (hi : (P.info? E).map (·.size) = some 1)
    (cs : Array Value) (hn : cs.size = n) (i : Int) (h0 : 0 ≤ i) (h1 : i < n) (w : World) :
    (Instr.index T (.agg cs) (.int .i64 i)).run P w = .ok (cs.getD i.toNat undef) w := by
  obtain ⟨info, hinfo, hsz⟩ : ∃ info, P.info? E = some info ∧ info.size = 1 := by
    cases h : P.info? E with
    | none => simp [h] at hi
    | some x => exact ⟨x, rfl, by simpa [h] using hi⟩
  have hlt : i.toNat < cs.size := by omega
  cases dE <;> simp at hd <;> simp [Instr.index, asIntOf, underlying, hT, hE, h0, h1, sizeOf, typeInfo, program, hinfo, hsz, part, isAgg, Array.getElem?_eq_getElem hlt, Sem.run, go_sem]

/-- Cells of one integer kind. -/
def ints (k : IntKind) (xs : List Int) : Array Value := (xs.map (Value.int k)).toArray
theorem ints_size (k : IntKind) (xs : List Int) : (ints k xs).size = xs.length := by simp [ints]
theorem ints_get (k : IntKind) (xs : List Int) (i : Nat) (h : i < xs.length) : (ints k xs).getD i undef = .int k (xs.getD i 0) := by
  simp [ints, h]
theorem ints_get? (k : IntKind) (xs : List Int) (i : Nat) (h : i < xs.length) : (ints k xs)[i]? = some (.int k (xs.getD i 0)) := by
  simp [ints, h]
theorem ints_set (k : IntKind) (xs : List Int) (i : Nat) (x : Int) : (ints k xs).setIfInBounds i (.int k x) = ints k (xs.set i x) := by
  simp [ints, List.map_set]

theorem all_getD_eq : ∀ (xs ys : List Int), xs.length = ys.length → ((List.range xs.length).all fun i => xs.getD i 0 == ys.getD i 0) = (xs == ys)
  | [], [], _ => rfl
  | x :: xs, y :: ys, h => by
    have ih := all_getD_eq xs ys (by simpa using h)
    rw [List.length_cons, List.range_succ_eq_map, List.all_cons, List.all_map]
    simp only [List.getD_cons_zero, Function.comp_def, List.getD_cons_succ, ih]
    simp [List.cons_beq_cons]
  | [], _ :: _, h => by simp at h
  | _ :: _, [], h => by simp at h

/-- '==' on arrays of integers. -/
theorem run_equalIn_ints {T E n : Nat} {k : IntKind} (hT : P.underlying T = some (.array n E)) (hE : P.underlying E = some (.int k)) (hi : (P.info? E).map (·.size) = some 1)
    (xs ys : List Int) (hx : xs.length = n) (hy : ys.length = n) (w : World) :
    (Op.equalIn 10000 T (.agg (ints k xs)) (.agg (ints k ys))).run P w = .ok (xs == ys) w := by
  obtain ⟨info, hinfo, hsz⟩ : ∃ info, P.info? E = some info ∧ info.size = 1 := by
    cases h : P.info? E with
    | none => simp [h] at hi
    | some x => exact ⟨x, rfl, by simpa [h] using hi⟩
  have hone : P.cellsOf E = 1 := by simp [Program.cellsOf, hinfo, hsz]
  rw [show 10000 = 9998 + 2 from rfl, run_equalIn_array w _ _ _ hT hinfo, hone, ← all_getD_eq xs ys (hx.trans hy.symm), hx]
  have hl : ∀ i ∈ List.range n, i < n := fun i hi => List.mem_range.1 hi
  generalize List.range n = l at hl ⊢
  have key : (Op.eqItems (9998 + 1) E 1 (ints k xs) (ints k ys) l).run P w = .ok (l.all fun i => xs.getD i 0 == ys.getD i 0) w := by
    induction l with
    | nil => simp [Op.eqItems]
    | cons i l ih =>
      have hi : i < n := hl i (by simp)
      have px : (part E (ints k xs) (i * 1)).run P w = .ok (.int k (xs.getD i 0)) w := by
        simp [part, isAgg, run_underlying hE, ints_get? k xs i (by omega)]
      have py : (part E (ints k ys) (i * 1)).run P w = .ok (.int k (ys.getD i 0)) w := by
        simp [part, isAgg, run_underlying hE, ints_get? k ys i (by omega)]
      have pe := run_equalIn_int w 9998 E k k (xs.getD i 0) (ys.getD i 0) hE
      simp only [Op.eqItems, Sem.run_bind, px, py, pe, Result.andThen_ok, List.all_cons]
      cases hb : (xs.getD i 0 == ys.getD i 0)
      · simp
      · simp only [Bool.not_true, Bool.false_eq_true, if_false, Bool.true_and]
        exact ih fun j hj => hl j (by simp [hj])
  exact key
end

theorem Below.drewN {B : Nat} {a w : World} (h : Below B a w) (n : Nat) : Below B a (w.drewN n) := ⟨h.os, h.tape, h.output, h.size, h.block⟩

/-- Behind a contract that ends in Below: every old cell and every old mark reads as before (two rules for the walk). -/
theorem bcell {W w1 : World} (hb : Below W.heap.size W w1) : (∀ b o, b < W.heap.size → w1.cell? ⟨b, o, none⟩ = W.cell? ⟨b, o, none⟩) ∧ (∀ b o, b < W.heap.size → w1.frozen? ⟨b, o, none⟩ = W.frozen? ⟨b, o, none⟩) :=
  ⟨fun b o h => hb.cell (p := ⟨b, o, none⟩) h, fun b o h => hb.frozen (p := ⟨b, o, none⟩) h⟩

theorem grownBy_below {w wr w' : World} {row : Option Nat} {B : Nat} (h : w.grownBy wr row) (hb : Below B wr w') (hB : wr.heap.size ≤ B) : w.grownBy w' row :=
  ⟨hb.os.trans h.os, hb.tape.trans h.tape, hb.output.trans h.output, Nat.le_trans h.size hb.size, fun k hk hne => (hb.block k (by have := h.size; omega)).trans (h.block k hk hne)⟩
theorem grownBy_setCell {w wr : World} {b o : Nat} {s : Option Nat} (h : w.grownBy wr (some b)) (v : Value) : w.grownBy (wr.setCell ⟨b, o, s⟩ v) (some b) :=
  ⟨h.os, h.tape, h.output, by simpa [World.setCell] using h.size, fun k hk hne => (heap_setCell_other wr ⟨b, o, s⟩ k v (by simpa using hne)).trans (h.block k hk hne)⟩
theorem grownBy_drew {w wr : World} {row : Option Nat} (h : w.grownBy wr row) : w.grownBy wr.drew row := ⟨h.os, h.tape, h.output, h.size, h.block⟩
theorem grownBy_drewN {w wr : World} {row : Option Nat} (h : w.grownBy wr row) (n : Nat) : w.grownBy (wr.drewN n) row := ⟨h.os, h.tape, h.output, h.size, h.block⟩
theorem heapA_old (w : World) (o : Obj) (i : Nat) (h : i < w.heap.size) : (w.alloc o).heap[i]? = w.heap[i]? := Below.heap_alloc w o i h
theorem heapA_new (w : World) (o : Obj) (i : Nat) (h : i = w.heap.size) : (w.alloc o).heap[i]? = some o := by subst h; exact heap_alloc_new w o
/-- Three new blocks, one behind the other. -/
theorem alloc3 (w : World) (a b c : Obj) : ∃ W, ((w.alloc a).alloc b).alloc c = W ∧ Below w.heap.size w W ∧ W.heap.size = w.heap.size + 3 ∧ W.heap[w.heap.size]? = some a ∧ W.heap[w.heap.size + 1]? = some b ∧ W.heap[w.heap.size + 2]? = some c := by
  refine ⟨_, rfl, (((Below.refl _ w).alloc (Nat.le_refl _) _).alloc (by simp) _).alloc (by simp <;> omega) _, by simp, ?_, ?_, ?_⟩
  · rw [heapA_old _ _ _ (by simp <;> omega), heapA_old _ _ _ (by simp), heapA_new _ _ _ rfl]
  · rw [heapA_old _ _ _ (by simp), heapA_new _ _ _ (by simp)]
  · rw [heapA_new _ _ _ (by simp)]
/-- Two new blocks. -/
theorem alloc2 (w : World) (a b : Obj) : ∃ W, (w.alloc a).alloc b = W ∧ Below w.heap.size w W ∧ W.heap.size = w.heap.size + 2 ∧ W.heap[w.heap.size]? = some a ∧ W.heap[w.heap.size + 1]? = some b := by
  refine ⟨_, rfl, ((Below.refl _ w).alloc (Nat.le_refl _) _).alloc (by simp) _, by simp, ?_, ?_⟩
  · rw [heapA_old _ _ _ (by simp), heapA_new _ _ _ rfl]
  · rw [heapA_new _ _ _ (by simp)]
/-- One new block. -/
theorem alloc1 (w : World) (a : Obj) : ∃ W, w.alloc a = W ∧ Below w.heap.size w W ∧ W.heap.size = w.heap.size + 1 ∧ W.heap[w.heap.size]? = some a :=
  ⟨_, rfl, (Below.refl _ w).alloc (Nat.le_refl _) _, by simp, heapA_new _ _ _ rfl⟩

/-- The run-time's mark behind a block's last cell (a constant text turned into bytes). -/
def mark (w : World) (b n : Nat) : World := w.freeze ⟨b, n, none⟩ 1
theorem shape?_at (w : World) (c : Array Value) (t : TypeId) (n : Nat) (h : n = w.heap.size) : (w.alloc (.cells c t)).shape? n = some (t, c.size) := by
  unfold World.shape?
  rw [heapA_new _ _ _ h]
theorem shape?_past (w : World) (o : Obj) (n : Nat) (h : n < w.heap.size) : (w.alloc o).shape? n = w.shape? n := by
  unfold World.shape?
  rw [heapA_old _ _ _ h]
theorem mark_drew (w : World) (b n : Nat) : mark w.drew b n = (mark w b n).drew := rfl
theorem mark_size (w : World) (b n : Nat) : (mark w b n).heap.size = w.heap.size := by simp [mark, World.freeze]
theorem mark_other (w : World) (b n k : Nat) (h : k ≠ b) : (mark w b n).heap[k]? = w.heap[k]? := by
  simp only [mark, World.freeze, Nat.one_ne_zero, if_false, Array.getElem?_modify]
  rw [if_neg (fun e => h e.symm)]
theorem mark_same (w : World) (b n : Nat) (c : Array Value) (t : TypeId) (h : w.heap[b]? = some (.cells c t (0, 0))) : (mark w b n).heap[b]? = some (.cells c t (n, n + 1)) := by
  simp [mark, World.freeze, Array.getElem?_modify, h]
theorem mark_cell (w : World) (b n : Nat) (a : Addr) : (mark w b n).cell? a = w.cell? a := by
  unfold World.cell?
  by_cases h : a.block = b
  · simp only [mark, World.freeze, Nat.one_ne_zero, if_false, Array.getElem?_modify]
    rw [if_pos h.symm]
    cases w.heap[a.block]? with
    | none => rfl
    | some o => cases o <;> rfl
  · rw [mark_other _ _ _ _ h]
theorem Below.mark {B : Nat} {w w' : World} (h : Below B w w') (b n : Nat) (hb : B ≤ b) : Below B w (mark w' b n) :=
  ⟨h.os, h.tape, h.output, by rw [mark_size]; exact h.size, fun k hk => (mark_other w' b n k (by omega)).trans (h.block k hk)⟩
/-- The same, where the block says how many cells it has. -/
def markS (w : World) (b : Nat) : World := mark w b (((w.shape? b).map (·.2)).getD 0)
theorem markS_drew (w : World) (b : Nat) : markS w.drew b = (markS w b).drew := rfl
theorem markS_size (w : World) (b : Nat) : (markS w b).heap.size = w.heap.size := mark_size _ _ _
theorem markS_cell (w : World) (b : Nat) (a : Addr) : (markS w b).cell? a = w.cell? a := mark_cell _ _ _ _
theorem markS_other (w : World) (b k : Nat) (h : k ≠ b) : (markS w b).heap[k]? = w.heap[k]? := mark_other _ _ _ _ h
theorem Below.markS {B : Nat} {w w' : World} (h : Below B w w') (b : Nat) (hb : B ≤ b) : Below B w (markS w' b) := Below.mark h b _ hb
theorem run_convert_same {P : Program} (w : World) (t e : TypeId) (b o n c : Nat) (ht : P.underlying t = some (.slice e)) (he : P.underlying e = some (.int .u8)) (hs : (w.shape? b).isSome = true) :
    (convert t t (.slice (some ⟨b, o, none⟩) n c)).run P w = .ok (.slice (some ⟨b, o, none⟩) n c) (markS w b) := by
  obtain ⟨⟨e', N⟩, hN⟩ := Option.isSome_iff_exists.1 hs
  simp [convert, run_underlying ht, run_underlying he, markStringish, hN, markS]
  rfl

/-- A list that is filled from its beginning on. -/
def fill {α : Type} (f : Nat → α) (z : α) (n k : Nat) : List α := (List.range k).map f ++ List.replicate (n - k) z
theorem fill_zero {α : Type} (f : Nat → α) (z : α) (n : Nat) : fill f z n 0 = List.replicate n z := by simp [fill]
theorem fill_length {α : Type} (f : Nat → α) (z : α) (n k : Nat) (h : k ≤ n) : (fill f z n k).length = n := by simp [fill]; omega
theorem fill_all {α : Type} (f : Nat → α) (z : α) (n : Nat) : fill f z n n = (List.range n).map f := by simp [fill]
theorem fill_set {α : Type} (f : Nat → α) (z : α) (n k : Nat) (h : k < n) : (fill f z n k).set k (f k) = fill f z n (k + 1) := by
  unfold fill
  rw [List.range_succ, List.map_append, List.append_assoc, List.set_append_right _ _ (by simp)]
  congr 1
  rw [show n - k = (n - (k + 1)) + 1 by omega, List.replicate_succ]
  simp
theorem fill_getD {α : Type} (f : Nat → α) (z d : α) (n k j : Nat) (h : j < k) : (fill f z n k).getD j d = f j := by
  simp [fill, List.getD, List.getElem?_append, h]
theorem fill_rest {α : Type} (f : Nat → α) (z d : α) (n k j : Nat) (h : k ≤ j) (hj : j < n) : (fill f z n k).getD j d = z := by
  simp [fill, List.getD, List.getElem?_append, Nat.not_lt.2 h]
  rw [List.getElem?_replicate, if_pos (by omega)]
  rfl
theorem setRow_at (w : World) (c c' : Array Value) (t : TypeId) (n : Nat) (h : n = w.heap.size) : (w.alloc (.cells c t)).setRow n c' = w.alloc (.cells c' t) := by
  subst h; exact World.setRow_alloc_new w c c' t
end Go.Proofs.Ytdnjjemdnlegdaa
namespace Go.Proofs.Ytdnjjemdnlegdaa
set_option linter.unusedVariables false
set_option linter.unusedSimpArgs false
open Go

theorem wrap_u32_mod (n : Int) : IntKind.u32.wrap n = n % 4294967296 := by simp [IntKind.wrap, IntKind.bits, IntKind.signed]
theorem wrap_u8_mod (n : Int) : IntKind.u8.wrap n = n % 256 := by simp [IntKind.wrap, IntKind.bits, IntKind.signed]
theorem wrap_u64_mod (n : Int) : IntKind.u64.wrap n = n % 18446744073709551616 := by simp [IntKind.wrap, IntKind.bits, IntKind.signed]

/-- A word's, a byte's number, as Go's values hold it. -/
def wv (x : BitVec 32) : Int := (x.toNat : Int)
def bv (x : BitVec 8) : Int := (x.toNat : Int)
theorem wv_def (x : BitVec 32) : wv x = (x.toNat : Int) := rfl
theorem bv_def (x : BitVec 8) : bv x = (x.toNat : Int) := rfl
theorem wv_nonneg (x : BitVec 32) : 0 ≤ wv x := by unfold wv; omega
theorem wv_lt (x : BitVec 32) : wv x < 4294967296 := by unfold wv; have := x.isLt; omega
theorem bv_nonneg (x : BitVec 8) : 0 ≤ bv x := by unfold bv; omega
theorem bv_lt (x : BitVec 8) : bv x < 256 := by unfold bv; have := x.isLt; omega
theorem wv_inj {x y : BitVec 32} (h : wv x = wv y) : x = y := by unfold wv at h; apply BitVec.eq_of_toNat_eq; omega
theorem bv_inj {x y : BitVec 8} (h : bv x = bv y) : x = y := by unfold bv at h; apply BitVec.eq_of_toNat_eq; omega
theorem wv_of {n : Int} (h0 : 0 ≤ n) (h : n < 4294967296) : ∃ x : BitVec 32, n = wv x :=
  ⟨BitVec.ofNat 32 n.toNat, by unfold wv; rw [BitVec.toNat_ofNat]; omega⟩
theorem bv_of {n : Int} (h0 : 0 ≤ n) (h : n < 256) : ∃ x : BitVec 8, n = bv x :=
  ⟨BitVec.ofNat 8 n.toNat, by unfold bv; rw [BitVec.toNat_ofNat]; omega⟩

theorem u32_add (a b : BitVec 32) : IntKind.u32.wrap (wv a + wv b) = wv (a + b) := by
  unfold wv; rw [wrap_u32_mod, BitVec.toNat_add]; omega
theorem u32_sub (a b : BitVec 32) : IntKind.u32.wrap (wv a - wv b) = wv (a - b) := by
  unfold wv; rw [wrap_u32_mod, BitVec.toNat_sub]; have := a.isLt; have := b.isLt; omega
theorem u32_mul (a b : BitVec 32) : IntKind.u32.wrap (wv a * wv b) = wv (a * b) := by
  unfold wv; rw [wrap_u32_mod, BitVec.toNat_mul]; have : ((a.toNat * b.toNat : Nat) : Int) = (a.toNat : Int) * b.toNat := by simp
  omega
theorem u32_xor (a b : BitVec 32) : bits .xor .u32 (wv a) (wv b) = wv (a ^^^ b) := by
  unfold wv; rw [u32_xor_nat _ _ a.isLt b.isLt, BitVec.toNat_xor]
theorem u32_or (a b : BitVec 32) : bits .or .u32 (wv a) (wv b) = wv (a ||| b) := by
  unfold wv; rw [u32_or_nat _ _ a.isLt b.isLt, BitVec.toNat_or]
theorem u32_and' (a b : BitVec 32) : bits .and .u32 (wv a) (wv b) = wv (a &&& b) := by
  unfold wv; rw [u32_and_nat _ _ a.isLt b.isLt, BitVec.toNat_and]
theorem u8_xor' (a b : BitVec 8) : bits .xor .u8 (bv a) (bv b) = bv (a ^^^ b) := by
  unfold bv; rw [u8_xor_nat _ _ a.isLt b.isLt, BitVec.toNat_xor]
theorem u8_or' (a b : BitVec 8) : bits .or .u8 (bv a) (bv b) = bv (a ||| b) := by
  unfold bv; rw [u8_or_nat _ _ a.isLt b.isLt, BitVec.toNat_or]
theorem u8_and' (a b : BitVec 8) : bits .and .u8 (bv a) (bv b) = bv (a &&& b) := by
  unfold bv; rw [u8_and_nat _ _ a.isLt b.isLt, BitVec.toNat_and]

theorem u32_shl (a : BitVec 32) (n : Nat) : IntKind.u32.wrap (wv a * 2 ^ n) = wv (a <<< n) := by
  unfold wv; rw [wrap_u32_mod, BitVec.toNat_shiftLeft, Nat.shiftLeft_eq]
  have : ((a.toNat * 2 ^ n : Nat) : Int) = (a.toNat : Int) * 2 ^ n := by simp
  omega
theorem u32_shr (a : BitVec 32) (n : Nat) : wv a / 2 ^ n = wv (a >>> n) := by
  unfold wv; rw [BitVec.toNat_ushiftRight, Nat.shiftRight_eq_div_pow]
  simp

theorem u32_shr8 (a : BitVec 32) : wv a / 256 = wv (a >>> 8) := u32_shr a 8
theorem u32_shr16 (a : BitVec 32) : wv a / 65536 = wv (a >>> 16) := u32_shr a 16
theorem u32_shr24 (a : BitVec 32) : wv a / 16777216 = wv (a >>> 24) := u32_shr a 24
theorem u32_shl8 (a : BitVec 32) : IntKind.u32.wrap (wv a * 256) = wv (a <<< 8) := u32_shl a 8
theorem u32_shl16 (a : BitVec 32) : IntKind.u32.wrap (wv a * 65536) = wv (a <<< 16) := u32_shl a 16
theorem u32_shl24 (a : BitVec 32) : IntKind.u32.wrap (wv a * 16777216) = wv (a <<< 24) := u32_shl a 24

/-- a byte as a word, a word's last byte -/
theorem u8_to_u32 (a : BitVec 8) : IntKind.u32.wrap (bv a) = wv (a.setWidth 32) := by
  unfold wv bv; rw [wrap_u32_mod, BitVec.toNat_setWidth]; have := a.isLt; omega
theorem u32_to_u8 (a : BitVec 32) : IntKind.u8.wrap (wv a) = bv (a.setWidth 8) := by
  unfold wv bv; rw [wrap_u8_mod, BitVec.toNat_setWidth]; omega

/-- Turning by the count that bits.RotateLeft32 reckons. -/
theorem rot_count (k : Int) : bits .and .u64 (IntKind.u64.wrap k) 31 = ((k % 32).toNat : Int) := by
  have h0 : 0 ≤ IntKind.u64.wrap k := wrap_u64_nonneg k
  have h1 : IntKind.u64.wrap k < 18446744073709551616 := by rw [wrap_u64_mod]; omega
  rw [u64_and _ _ h0 h1 (by omega) (by omega)]
  have e : (31 : Int).toNat = 31 := rfl
  rw [e, show (31 : Nat) = 2 ^ 5 - 1 from rfl, Nat.and_two_pow_sub_one_eq_mod, wrap_u64_mod]
  omega
theorem rot_eq (x : BitVec 32) (n : Nat) (h : n < 32) : x.rotateLeft n = (x <<< n) ||| (x >>> (32 - n)) := by
  rw [BitVec.rotateLeft_def, Nat.mod_eq_of_lt h]

theorem ret_int {k : IntKind} {a b : Int} (h : a = b) : Ending.returned (.int k a) = .returned (.int k b) := by rw [h]
end Go.Proofs.Ytdnjjemdnlegdaa
namespace Go.Proofs.Ytdnjjemdnlegdaa
set_option linter.unusedVariables false
set_option linter.unusedSimpArgs false
open Go Go.RowKit Go.WideShapes Go.ChangeShapes

/-- Words, bytes as cells. -/
def words (xs : List (BitVec 32)) : Array Value := (xs.map fun x => Value.int .u32 (wv x)).toArray
def bytes (xs : List (BitVec 8)) : Array Value := (xs.map fun x => Value.int .u8 (bv x)).toArray
theorem words_size (xs : List (BitVec 32)) : (words xs).size = xs.length := by simp [words]
theorem bytes_size (xs : List (BitVec 8)) : (bytes xs).size = xs.length := by simp [bytes]

theorem words_get? (xs : List (BitVec 32)) (j : Nat) (h : j < xs.length) : (words xs)[j]? = some (.int .u32 (wv (xs.getD j 0))) := by simp [words, h]
theorem words_set (xs : List (BitVec 32)) (j : Nat) (x : BitVec 32) : (words xs).setIfInBounds j (.int .u32 (wv x)) = words (xs.set j x) := by simp [words, List.map_set]
theorem bytes_get? (xs : List (BitVec 8)) (j : Nat) (h : j < xs.length) : (bytes xs)[j]? = some (.int .u8 (bv (xs.getD j 0))) := by simp [bytes, h]
theorem bytes_set (xs : List (BitVec 8)) (j : Nat) (x : BitVec 8) : (bytes xs).setIfInBounds j (.int .u8 (bv x)) = bytes (xs.set j x) := by simp [bytes, List.map_set]

theorem words_one (xs : List (BitVec 32)) : (words xs).all (·.oneCell') = true := by
  rw [Array.all_eq_true_iff_forall_mem]
  intro v hv
  simp [words] at hv
  obtain ⟨x, _, rfl⟩ := hv
  rfl
theorem bytes_one (xs : List (BitVec 8)) : (bytes xs).all (·.oneCell') = true := by
  rw [Array.all_eq_true_iff_forall_mem]
  intro v hv
  simp [bytes] at hv
  obtain ⟨x, _, rfl⟩ := hv
  rfl

section
variable {P : Program}

theorem cell_int {w : World} {r : Reach} {base : Nat} {u : TypeId} {k : IntKind} {v : Value} (hu : P.underlying u = some (.int k)) (h : Cell.okWide P w r base u v) :
    ∃ n, v = .int k n ∧ k.min ≤ n ∧ n ≤ k.max := by
  unfold Cell.okWide at h
  rw [hu] at h
  unfold Cell.ok at h
  rw [hu] at h
  cases v <;> simp at h
  obtain ⟨rfl, h1, h2⟩ := h
  exact ⟨_, rfl, h1, h2⟩

theorem list_of_cells {α : Type} (f : α → Value) : ∀ (l : List Value), (∀ v ∈ l, ∃ x, v = f x) → ∃ xs : List α, l = xs.map f
  | [], _ => ⟨[], rfl⟩
  | v :: l, h => by
    obtain ⟨x, rfl⟩ := h v (by simp)
    obtain ⟨xs, rfl⟩ := list_of_cells f l fun u hu => h u (by simp [hu])
    exact ⟨x :: xs, rfl⟩

/-- Cells i to i + n of an aggregate whose cells have the types ts. -/
theorem open_part {α : Type} (f : α → Value) {w : World} {r : Reach} {base : Nat} {t u : TypeId} {v : Value} {ts : List TypeId} {d : TypeDesc} (ht : P.underlying t = some d)
    (hd : (match d with | .struct _ | .array _ _ => true | _ => false) = true) (hts : P.cellTypes P.depth t = some ts) (hcs : P.cellsOf t = ts.length)
    (h : Value.okWide P w r base t v) : ∃ cs : Array Value, v = .agg cs ∧ cs.size = ts.length ∧
      ∀ (i n : Nat), i + n ≤ ts.length → (∀ j, j < n → ts[i + j]? = some u) → (∀ c, Cell.okWide P w r base u c → ∃ x, c = f x) → ∃ xs : List α, xs.length = n ∧ (cs.extract i (i + n)).toList = xs.map f := by
  unfold Value.okWide at h
  rw [ht] at h
  have h' : ∃ cs, v = .agg cs ∧ cs.size = P.cellsOf t ∧ Row.okWide P w r base t cs := by
    cases d <;> simp at hd <;> exact h
  obtain ⟨cs, rfl, hs, ts', hts', _, hall⟩ := h'
  rw [hts] at hts'
  obtain rfl : ts = ts' := by simpa using hts'
  refine ⟨cs, rfl, hs.trans hcs, fun i n hin hu hf => ?_⟩
  obtain ⟨xs, hxs⟩ := list_of_cells f (cs.extract i (i + n)).toList fun c hc => by
    rw [Array.mem_toList_iff, Array.mem_extract_iff_getElem] at hc
    obtain ⟨j, hj, rfl⟩ := hc
    have hlt : i + j < cs.size := by omega
    obtain ⟨u', hu', hc'⟩ := hall (i + j) cs[i + j] (by simp [hlt])
    rw [Nat.mod_eq_of_lt (by omega), hu j (by omega)] at hu'
    obtain rfl : u = u' := by simpa using hu'
    exact hf _ hc'
  refine ⟨xs, ?_, hxs⟩
  have := congrArg List.length hxs
  simp at this
  omega

theorem cell_word {w : World} {r : Reach} {base : Nat} {u : TypeId} (hu : P.underlying u = some (.int .u32)) (c : Value) (h : Cell.okWide P w r base u c) : ∃ x : BitVec 32, c = .int .u32 (wv x) := by
  obtain ⟨n, rfl, h0, h1⟩ := cell_int hu h
  have e0 : IntKind.u32.min = 0 := rfl
  have e1 : IntKind.u32.max = 4294967295 := rfl
  obtain ⟨x, rfl⟩ := wv_of (n := n) (by omega) (by omega)
  exact ⟨x, rfl⟩
theorem cell_byte {w : World} {r : Reach} {base : Nat} {u : TypeId} (hu : P.underlying u = some (.int .u8)) (c : Value) (h : Cell.okWide P w r base u c) : ∃ x : BitVec 8, c = .int .u8 (bv x) := by
  obtain ⟨n, rfl, h0, h1⟩ := cell_int hu h
  have e0 : IntKind.u8.min = 0 := rfl
  have e1 : IntKind.u8.max = 255 := rfl
  obtain ⟨x, rfl⟩ := bv_of (n := n) (by omega) (by omega)
  exact ⟨x, rfl⟩

theorem replicate_get {α : Type} (n i j : Nat) (x : α) (h : i + j < n) : (List.replicate n x)[i + j]? = some x := by simp [h]

theorem open_words {w : World} {r : Reach} {base : Nat} {t e n : Nat} {v : Value} (ht : P.underlying t = some (.array n e)) (he : P.underlying e = some (.int .u32))
    (hts : P.cellTypes P.depth t = some (List.replicate n e)) (hcs : P.cellsOf t = n) (h : Value.okWide P w r base t v) : ∃ xs : List (BitVec 32), xs.length = n ∧ v = .agg (words xs) := by
  obtain ⟨cs, rfl, hs, hp⟩ := open_part (u := e) (fun x : BitVec 32 => Value.int .u32 (wv x)) ht rfl hts (by simpa using hcs) h
  obtain ⟨xs, hl, hx⟩ := hp 0 n (by simp) (fun j hj => replicate_get n 0 j e (by omega)) (fun c hc => cell_word he c hc)
  refine ⟨xs, hl, ?_⟩
  have : cs.extract 0 (0 + n) = cs := by simp at hs; simp [← hs]
  rw [this] at hx
  simp only [words, ← hx, Array.toArray_toList]
theorem open_bytes {w : World} {r : Reach} {base : Nat} {t e n : Nat} {v : Value} (ht : P.underlying t = some (.array n e)) (he : P.underlying e = some (.int .u8))
    (hts : P.cellTypes P.depth t = some (List.replicate n e)) (hcs : P.cellsOf t = n) (h : Value.okWide P w r base t v) : ∃ xs : List (BitVec 8), xs.length = n ∧ v = .agg (bytes xs) := by
  obtain ⟨cs, rfl, hs, hp⟩ := open_part (u := e) (fun x : BitVec 8 => Value.int .u8 (bv x)) ht rfl hts (by simpa using hcs) h
  obtain ⟨xs, hl, hx⟩ := hp 0 n (by simp) (fun j hj => replicate_get n 0 j e (by omega)) (fun c hc => cell_byte he c hc)
  refine ⟨xs, hl, ?_⟩
  have : cs.extract 0 (0 + n) = cs := by simp at hs; simp [← hs]
  rw [this] at hx
  simp only [bytes, ← hx, Array.toArray_toList]
end
end Go.Proofs.Ytdnjjemdnlegdaa
namespace Go.Proofs.Ytdnjjemdnlegdaa
set_option linter.unusedVariables false
set_option linter.unusedSimpArgs false
open Go Go.RowKit

def byteV (x : BitVec 8) : Value := .int .u8 (bv x)
def bcells (xs : List (BitVec 8)) : List Value := xs.map byteV
theorem bcells_length (xs : List (BitVec 8)) : (bcells xs).length = xs.length := by simp [bcells]
theorem bcells_append (xs ys : List (BitVec 8)) : bcells (xs ++ ys) = bcells xs ++ bcells ys := by simp [bcells]
theorem bcells_get? (xs : List (BitVec 8)) (j : Nat) (h : j < xs.length) : (bcells xs)[j]? = some (byteV (xs.getD j 0)) := by simp [bcells, h]
theorem bcells_one (xs : List (BitVec 8)) : ∀ u ∈ bcells xs, u.oneCell' = true := by
  intro u hu
  simp only [bcells, List.mem_map] at hu
  obtain ⟨x, _, rfl⟩ := hu
  rfl

/-- The slice value v reads as the bytes xs. -/
def SlB (w : World) (v : Value) (xs : List (BitVec 8)) : Prop :=
  ((∃ a, v = .slice a 0 0) ∧ xs = []) ∨
  ∃ b off cap, v = .slice (some ⟨b, off, none⟩) xs.length cap ∧ xs.length ≤ cap ∧ cap ≤ maxLen ∧ b < w.heap.size ∧
    ∀ j, j < xs.length → w.cell? ⟨b, off + j, none⟩ = some (byteV (xs.getD j 0))

theorem SlB.nil (w : World) : SlB w (.slice none 0 0) [] := .inl ⟨⟨none, rfl⟩, rfl⟩
theorem SlB.below {B : Nat} {w w' : World} {v : Value} {xs : List (BitVec 8)} (h : SlB w v xs) (hb : Below B w w') (hB : w.heap.size ≤ B) : SlB w' v xs := by
  rcases h with h | ⟨b, off, cap, rfl, h1, h2, h3, h4⟩
  · exact .inl h
  · refine .inr ⟨b, off, cap, rfl, h1, h2, by have := hb.size; omega, fun j hj => ?_⟩
    exact (hb.cell (p := ⟨b, off + j, none⟩) (by show b < B; omega)).trans (h4 j hj)
theorem SlB.grown {w w' : World} {v : Value} {xs : List (BitVec 8)} {row : Option Nat} (h : SlB w v xs) (hg : w.grownBy w' row) (hne : v.ownBlock = none ∨ v.ownBlock ≠ row) : SlB w' v xs := by
  rcases h with h | ⟨b, off, cap, rfl, h1, h2, h3, h4⟩
  · exact .inl h
  · refine .inr ⟨b, off, cap, rfl, h1, h2, by have := hg.size; omega, fun j hj => ?_⟩
    have hb := hg.block b h3 (by simpa [Value.ownBlock] using hne)
    exact (World.cell?_of_block (a := ⟨b, off + j, none⟩) hb).trans (h4 j hj)
theorem SlB.alloc {w : World} {v : Value} {xs : List (BitVec 8)} (h : SlB w v xs) (o : Obj) : SlB (w.alloc o) v xs :=
  h.grown (World.grownBy_alloc w o none) (by cases hv : v.ownBlock <;> simp)
theorem SlB.drew {w : World} {v : Value} {xs : List (BitVec 8)} (h : SlB w v xs) : SlB w.drew v xs := h
theorem SlB.drewN {w : World} {v : Value} {xs : List (BitVec 8)} (h : SlB w v xs) (n : Nat) : SlB (w.drewN n) v xs := h
theorem SlB.len {w : World} {v : Value} {xs : List (BitVec 8)} (h : SlB w v xs) : ∃ a cap, v = .slice a xs.length cap := by
  rcases h with ⟨⟨a, rfl⟩, rfl⟩ | ⟨b, off, cap, rfl, _⟩
  · exact ⟨a, 0, rfl⟩
  · exact ⟨_, cap, rfl⟩

theorem SlB.open_ {w : World} {v : Value} {xs : List (BitVec 8)} (h : SlB w v xs) (n : Nat) (hn : xs.length = n) (h0 : 0 < n) : ∃ b off cap, v = .slice (some ⟨b, off, none⟩) n cap ∧ n ≤ cap ∧ b < w.heap.size := by
  subst hn
  rcases h with ⟨_, rfl⟩ | ⟨b, off, cap, rfl, h1, h2, h3, h4⟩
  · simp at h0
  · exact ⟨b, off, cap, rfl, h1, h3⟩

/-- A block whose cells are just these bytes. -/
theorem SlB.block {w : World} {b : Nat} {cs : Array Value} {t : TypeId} {fr : Nat × Nat} (hb : w.heap[b]? = some (.cells cs t fr)) (off cap : Nat) (xs : List (BitVec 8)) (h1 : xs.length ≤ cap) (h2 : cap ≤ maxLen)
    (hx : ∀ j, j < xs.length → cs[off + j]? = some (byteV (xs.getD j 0))) : SlB w (.slice (some ⟨b, off, none⟩) xs.length cap) xs :=
  .inr ⟨b, off, cap, rfl, h1, h2, (Array.getElem?_eq_some_iff.1 hb).1, fun j hj => (cell_of_row w b (off + j) cs t fr hb).trans (hx j hj)⟩

/-- A block read cell by cell. -/
theorem SlB.ofRow {w : World} {b n cap : Nat} {C : Array Value} {xs : List (BitVec 8)} (hC : C.toList = bcells xs) (hn : n = xs.length) (hlt : b < w.heap.size) (hcell : ∀ j, w.cell? ⟨b, j, none⟩ = C[j]?) (h1 : xs.length ≤ cap) (h2 : cap ≤ maxLen) :
    SlB w (.slice (some ⟨b, 0, none⟩) n cap) xs := by
  subst hn
  refine .inr ⟨b, 0, cap, rfl, h1, h2, hlt, fun j hj => ?_⟩
  rw [Nat.zero_add, hcell j, ← Array.getElem?_toList, hC]
  exact bcells_get? xs j hj
theorem bytes_toList (xs : List (BitVec 8)) : (bytes xs).toList = bcells xs := by simp [bytes, bcells, byteV]

/-- A piece of a slice. -/
theorem SlB.cell {w : World} {b off len cap : Nat} {xs : List (BitVec 8)} (h : SlB w (.slice (some ⟨b, off, none⟩) len cap) xs) (j : Nat) (hj : j < xs.length) : w.cell? ⟨b, off + j, none⟩ = some (byteV (xs.getD j 0)) := by
  rcases h with ⟨_, rfl⟩ | ⟨b', off', cap', h, _, _, _, h4⟩
  · simp at hj
  · simp only [Value.slice.injEq, Option.some.injEq, Addr.mk.injEq] at h
    obtain ⟨⟨rfl, rfl, _⟩, _, _⟩ := h
    exact h4 j hj

theorem SlB.drop {w : World} {b off len cap : Nat} {xs : List (BitVec 8)} (h : SlB w (.slice (some ⟨b, off, none⟩) len cap) xs) (k : Nat) (hk : k ≤ len) :
    SlB w (.slice (some ⟨b, off + k, none⟩) (len - k) (cap - k)) (xs.drop k) := by
  rcases h with ⟨⟨a, h⟩, rfl⟩ | ⟨b', off', cap', h, h1, h2, h3, h4⟩
  · simp only [Value.slice.injEq] at h
    obtain ⟨_, rfl, rfl⟩ := h
    obtain rfl : k = 0 := by omega
    exact .inl ⟨⟨_, rfl⟩, by simp⟩
  · simp only [Value.slice.injEq, Option.some.injEq, Addr.mk.injEq] at h
    obtain ⟨⟨rfl, rfl, _⟩, rfl, rfl⟩ := h
    refine .inr ⟨b, off + k, cap - k, by simp, by simp; omega, by omega, h3, fun j hj => ?_⟩
    simp at hj
    rw [Nat.add_assoc, h4 (k + j) (by omega)]
    simp
theorem SlB.take {w : World} {b off len cap : Nat} {xs : List (BitVec 8)} (h : SlB w (.slice (some ⟨b, off, none⟩) len cap) xs) (k : Nat) (hk : k ≤ len) :
    SlB w (.slice (some ⟨b, off, none⟩) k cap) (xs.take k) := by
  rcases h with ⟨⟨a, h⟩, rfl⟩ | ⟨b', off', cap', h, h1, h2, h3, h4⟩
  · simp only [Value.slice.injEq] at h
    obtain ⟨_, rfl, rfl⟩ := h
    obtain rfl : k = 0 := by omega
    exact .inl ⟨⟨_, rfl⟩, by simp⟩
  · simp only [Value.slice.injEq, Option.some.injEq, Addr.mk.injEq] at h
    obtain ⟨⟨rfl, rfl, _⟩, rfl, rfl⟩ := h
    have e : (xs.take k).length = k := by simp; omega
    refine .inr ⟨b, off, cap, by rw [e], by omega, h2, h3, fun j hj => ?_⟩
    rw [e] at hj
    rw [h4 j (by omega)]
    simp [hj]
theorem SlB.setCell {w : World} {g off len cap : Nat} {xs : List (BitVec 8)} (h : SlB w (.slice (some ⟨g, off, none⟩) len cap) xs) {b o : Nat} {sp : Option Nat} (hne : g ≠ b) (v : Value) :
    SlB (w.setCell ⟨b, o, sp⟩ v) (.slice (some ⟨g, off, none⟩) len cap) xs :=
  h.grown (grownBy_setCell (World.grownBy.refl w _) v) (by simp [Value.ownBlock, hne])
theorem SlB.bounds {w : World} {a : Option Addr} {len cap : Nat} {xs : List (BitVec 8)} (h : SlB w (.slice a len cap) xs) : len = xs.length ∧ len ≤ cap ∧ cap ≤ maxLen := by
  rcases h with ⟨⟨a', h⟩, rfl⟩ | ⟨b', off', cap', h, h1, h2, h3, h4⟩
  · simp only [Value.slice.injEq] at h
    obtain ⟨rfl, rfl, rfl⟩ := h
    exact ⟨rfl, Nat.le_refl _, by decide⟩
  · simp only [Value.slice.injEq] at h
    obtain ⟨rfl, rfl, rfl⟩ := h
    exact ⟨rfl, h1, h2⟩

/-- What a call owns. E: the element type's number. -/
def OwnB (E base : Nat) (w : World) (v : Value) (xs : List (BitVec 8)) : Prop := w.ownsRow base E 1 v xs.length (bcells xs)

theorem OwnB.nil (E base : Nat) (w : World) : OwnB E base w (.slice none 0 0) [] := World.ownsRow_nil _ _ _ _
theorem OwnB.sl {E base : Nat} {w : World} {v : Value} {xs : List (BitVec 8)} (h : OwnB E base w v xs) : SlB w v xs := by
  rcases h with ⟨h1, ⟨rfl, h2⟩ | ⟨g, cap, cur, rfl, hb, hg, hn, hm, hs, ht⟩⟩
  · exact .inl ⟨⟨none, rfl⟩, List.eq_nil_of_length_eq_zero h2⟩
  · refine .inr ⟨g, 0, cap, rfl, hn, hm, (Array.getElem?_eq_some_iff.1 hg).1, fun j hj => ?_⟩
    rw [cell_of_row w g (0 + j) cur E (0, 0) hg, Nat.zero_add]
    have := bcells_get? xs j hj
    rw [← ht, List.getElem?_take] at this
    rw [if_pos (by omega)] at this
    simpa using this
theorem OwnB.form {E base : Nat} {w : World} {v : Value} {xs : List (BitVec 8)} (h : OwnB E base w v xs) (n : Nat) (hn : xs.length = n) (h0 : 0 < n) :
    ∃ g cap, v = .slice (some ⟨g, 0, none⟩) n cap ∧ base ≤ g ∧ g < w.heap.size ∧ n ≤ cap ∧ SlB w (.slice (some ⟨g, 0, none⟩) n cap) xs := by
  have hs := h.sl
  subst hn
  rcases h.2 with ⟨rfl, h2⟩ | ⟨g, cap, cur, rfl, hb, hg, hn, hm, _⟩
  · omega
  · exact ⟨g, cap, rfl, hb, (Array.getElem?_eq_some_iff.1 hg).1, hn, hs⟩
theorem OwnB.below {E base B : Nat} {w w' : World} {v : Value} {xs : List (BitVec 8)} (h : OwnB E base w v xs) (hb : Below B w w') (hB : w.heap.size ≤ B) : OwnB E base w' v xs := by
  refine ⟨h.1, ?_⟩
  rcases h.2 with hn | ⟨g, cap, cur, rfl, h1, hg, h2⟩
  · exact .inl hn
  · refine .inr ⟨g, cap, cur, rfl, h1, ?_, h2⟩
    rw [hb.block g (by have := (Array.getElem?_eq_some_iff.1 hg).1; omega)]
    exact hg
theorem OwnB.mono {E base base' : Nat} {w : World} {v : Value} {xs : List (BitVec 8)} (h : OwnB E base w v xs) (hB : base' ≤ base) : OwnB E base' w v xs := by
  refine ⟨h.1, ?_⟩
  rcases h.2 with hn | ⟨g, cap, cur, rfl, h1, hg⟩
  · exact .inl hn
  · exact .inr ⟨g, cap, cur, rfl, by omega, hg⟩

theorem OwnB.grown {E base : Nat} {w w' : World} {v : Value} {xs : List (BitVec 8)} {row : Option Nat} (h : OwnB E base w v xs) (hg : w.grownBy w' row) (hne : v.ownBlock = none ∨ v.ownBlock ≠ row) : OwnB E base w' v xs := by
  refine ⟨h.1, ?_⟩
  rcases h.2 with hn | ⟨g, cap, cur, rfl, h1, hb, h2⟩
  · exact .inl hn
  · refine .inr ⟨g, cap, cur, rfl, h1, ?_, h2⟩
    rw [hg.block g (Array.getElem?_eq_some_iff.1 hb).1 (by simpa [Value.ownBlock] using hne)]
    exact hb
theorem OwnB.alloc {E base : Nat} {w : World} {v : Value} {xs : List (BitVec 8)} (h : OwnB E base w v xs) (o : Obj) : OwnB E base (w.alloc o) v xs :=
  h.below ((Below.refl _ w).alloc (Nat.le_refl _) o) (Nat.le_refl _)
theorem OwnB.get_cell {E base : Nat} {w : World} {g n cap : Nat} {xs : List (BitVec 8)} (h : OwnB E base w (.slice (some ⟨g, 0, none⟩) n cap) xs) (j : Nat) (hj : j < xs.length) : w.cell? ⟨g, j, none⟩ = some (byteV (xs.getD j 0)) := by
  simpa using h.sl.cell j hj
theorem OwnB.not_frozen {E base : Nat} {w : World} {g n cap : Nat} {xs : List (BitVec 8)} (h : OwnB E base w (.slice (some ⟨g, 0, none⟩) n cap) xs) (j : Nat) : w.frozen? ⟨g, j, none⟩ = false := by
  rcases h.2 with ⟨e, _⟩ | ⟨g', cap', cur, e, _, hg, _⟩
  · simp at e
  · simp only [Value.slice.injEq, Option.some.injEq, Addr.mk.injEq] at e
    obtain ⟨⟨rfl, -, -⟩, rfl, rfl⟩ := e
    exact frozen_of_row w g j _ _ hg
theorem OwnB.set_cell {E base : Nat} {w : World} {g n cap : Nat} {xs : List (BitVec 8)} (h : OwnB E base w (.slice (some ⟨g, 0, none⟩) n cap) xs) (j : Nat) (hj : j < xs.length) (x : BitVec 8) :
    OwnB E base (w.setCell ⟨g, j, none⟩ (.int .u8 (bv x))) (.slice (some ⟨g, 0, none⟩) n cap) (xs.set j x) := by
  refine ⟨by simp [bcells], ?_⟩
  rcases h.2 with ⟨e, _⟩ | ⟨g', cap', cur, e, hb, hg, hn, hm, hs, ht⟩
  · simp at e
  · simp only [Value.slice.injEq, Option.some.injEq, Addr.mk.injEq] at e
    obtain ⟨⟨rfl, -, -⟩, rfl, rfl⟩ := e
    refine .inr ⟨g, cap, cur.setIfInBounds j (.int .u8 (bv x)), by simp, hb, heap_setCell_same w g j _ _ _ hg, by simpa using hn, hm, by simpa using hs, ?_⟩
    simp only [Nat.mul_one] at ht ⊢
    rw [Array.toList_setIfInBounds, List.take_set, List.length_set, ht]
    simp [bcells, byteV, List.map_set]
/-- A new block, full. -/
theorem OwnB.made {E base : Nat} (w : World) (xs : List (BitVec 8)) (hb : base ≤ w.heap.size) (hm : xs.length ≤ maxLen) : OwnB E base (w.alloc (.cells (bytes xs) E)) (.slice (some ⟨w.heap.size, 0, none⟩) xs.length xs.length) xs :=
  ⟨by simp [bcells], .inr ⟨w.heap.size, xs.length, bytes xs, rfl, hb, heap_alloc_new w _, Nat.le_refl _, hm, by simp [bytes_size], by rw [bytes_toList]; exact List.take_of_length_le (by simp [bcells])⟩⟩

/-- The slice value v has the elements vs (one cell each). -/
def SlL (w : World) (v : Value) (vs : List Value) : Prop :=
  (v = .slice none 0 0 ∧ vs = []) ∨
  ∃ b off cap, v = .slice (some ⟨b, off, none⟩) vs.length cap ∧ vs.length ≤ cap ∧ cap ≤ maxLen ∧ b < w.heap.size ∧
    ∀ j, j < vs.length → w.cell? ⟨b, off + j, none⟩ = some (vs.getD j undef)

/-- How many bytes some lists have. -/
def total (xss : List (List (BitVec 8))) : Nat := xss.flatten.length
theorem total_take_succ (xss : List (List (BitVec 8))) (k : Nat) (h : k < xss.length) : total (xss.take (k + 1)) = total (xss.take k) + (xss.getD k []).length := by
  unfold total
  rw [List.take_succ_eq_append_getElem h, List.flatten_append, List.length_append]
  simp [h]
theorem total_take_le (xss : List (List (BitVec 8))) (k : Nat) : total (xss.take k) ≤ total xss := by
  unfold total
  conv => rhs; rw [← List.take_append_drop k xss, List.flatten_append, List.length_append]
  omega
theorem flatten_take_succ (xss : List (List (BitVec 8))) (k : Nat) (h : k < xss.length) : (xss.take (k + 1)).flatten = (xss.take k).flatten ++ xss.getD k [] := by
  rw [List.take_succ_eq_append_getElem h, List.flatten_append]
  simp [h]

section
variable {P : Program}
/-- append(s, x...) onto a slice of the call's own, whatever the other one (nil, too). -/
theorem wpList_append_b {ops : Array Oper} {rest : List Oper} {o : Oper} {a : Act} {w : World} {Q : Exit → Act → World → Prop} (hgd : o.guard = none) (s x : Operand) (T E : TypeId)
    (ho : o.op = .call { callee := .builtin .append, args := #[s, x], argTypes := #[T, T] }) (ht : P.underlying T = some (.slice E))
    (hi : (P.info? E).map (fun i => (i.zero, i.size, i.bytes)) = some (some (.int .u8 0), 1, 1)) (base : Nat)
    (v : Value) (xs : List (BitVec 8)) (hown : OwnB E base w v xs) (hs : a.eval s = v) (u : Value) (ys : List (BitVec 8)) (hsl : SlB w u ys) (hx : a.eval x = u)
    (hlen : xs.length + ys.length ≤ 1000000000) (hbase : base ≤ w.heap.size)
    (h : ∀ v' w', OwnB E base w' v' (xs ++ ys) → w.grownBy w' v.ownBlock → True → wpList P ops Q rest (a.put o.dst v') w') : wpList P ops Q (o :: rest) a w := by
  obtain ⟨i, hi0, hz, hsz, hby⟩ := info_parts hi
  have hm : xs.length + ys.length ≤ maxLen := by unfold maxLen; omega
  rcases hsl with ⟨⟨_ | ad, rfl⟩, rfl⟩ | ⟨b, off, cap, rfl, h1, h2, h3, h4⟩
  · refine wpList_append_own_none hgd s x T ho base E i 1 ht hi0 v xs.length (bcells xs) hs hown hx ?_
    exact h v w (by simpa using hown) ⟨rfl, rfl, rfl, Nat.le_refl _, fun _ _ _ => rfl⟩ trivial
  · refine wpList_append_own w hgd s x T ho base E i (.int .u8 0) 1 1 ht hi0 hz hsz hby rfl (by decide) v xs.length (bcells xs) hs hown ad 0 0 [] hx rfl (by simp) (by simp) (by simpa using hm) (by omega) hbase ?_
    intro v' w' ho' hg' hn'
    exact h v' w' (by simpa [OwnB] using ho') hg' trivial
  · refine wpList_append_own w hgd s x T ho base E i (.int .u8 0) 1 1 ht hi0 hz hsz hby rfl (by decide) v xs.length (bcells xs) hs hown ⟨b, off, none⟩ ys.length cap (bcells ys) hx (by simp [bcells]) ?_ (bcells_one ys) hm (by omega) hbase ?_
    · intro j y hj
      have hlt : j < ys.length := by
        rw [← bcells_length]
        exact (List.getElem?_eq_some_iff.1 hj).1
      rw [bcells_get? ys j hlt] at hj
      obtain rfl : byteV (ys.getD j 0) = y := by simpa using hj
      have hadd : (⟨b, off, none⟩ : Addr).add j = ⟨b, off + j, none⟩ := by unfold Addr.add; split <;> simp_all
      rw [hadd]
      exact h4 j hlt
    · intro v' w' ho' hg' hn'
      refine h v' w' ?_ hg' trivial
      simpa [OwnB, bcells_append] using ho'
end
end Go.Proofs.Ytdnjjemdnlegdaa
namespace Go.Proofs.Ytdnjjemdnlegdaa
set_option linter.unusedVariables false
set_option linter.unusedSimpArgs false
open Go Go.RowKit Go.WideShapes Go.ChangeShapes

theorem block_lt_of_cell {w : World} {a : Addr} {v : Value} (h : w.cell? a = some v) : a.block < w.heap.size ∧ a.spot = none := by
  unfold World.cell? at h
  split at h
  · rename_i c t f hc
    refine ⟨(Array.getElem?_eq_some_iff.1 hc).1, ?_⟩
    cases hs : a.spot with
    | none => rfl
    | some s => simp [hs] at h
  · simp at h
theorem add_spot (a : Addr) (i : Nat) (h : a.spot = none) : a.add i = ⟨a.block, a.off + i, none⟩ := by
  unfold Addr.add
  split
  · obtain ⟨b, o, s⟩ := a
    simp_all
  · rfl

section
variable {H : Type} {enc : TypeId × Value → H} {P : Program} {w : World} {fuel : Nat} {t e : TypeId} {cs : List Value} {x : DataW H × List MemPlace}

theorem tr_byte (he : P.underlying e = some (.int .u8)) (h : DataW.trod enc P w 0 (fun _ => true) true fuel e cs = some x) : ∃ b : BitVec 8, cs = [byteV b] := by
  obtain ⟨n, rfl, _, hw⟩ := DataW.trod_int he h
  have hb : 0 ≤ n ∧ n ≤ 255 := by simpa [Lit.wf, IntKind.min, IntKind.max, IntKind.bits, IntKind.signed] using hw
  obtain ⟨b, rfl⟩ := bv_of (n := n) (by omega) (by omega)
  exact ⟨b, rfl⟩
theorem tr_int (he : P.underlying e = some (.int .i64)) (h : DataW.trod enc P w 0 (fun _ => true) true fuel e cs = some x) : ∃ n : Int, cs = [.int .i64 n] ∧ -9223372036854775808 ≤ n ∧ n ≤ 9223372036854775807 := by
  obtain ⟨n, rfl, _, hw⟩ := DataW.trod_int he h
  exact ⟨n, rfl, by simpa [Lit.wf, IntKind.min, IntKind.max, IntKind.bits, IntKind.signed] using hw⟩
theorem tr_bool (he : P.underlying e = some .bool) (h : DataW.trod enc P w 0 (fun _ => true) true fuel e cs = some x) : ∃ b : Bool, cs = [.bool b] := by
  obtain ⟨b, rfl, _⟩ := DataW.trod_bool he h
  exact ⟨b, rfl⟩
theorem list_of_parts {α : Type} (f : α → Value) : ∀ (n : Nat) (cs : List Value), cs.length = n → (∀ i, i < n → ∃ a, (cs.drop i).take 1 = [f a]) → ∃ xs : List α, xs.length = n ∧ cs = xs.map f
  | 0, cs, hl, _ => ⟨[], rfl, List.eq_nil_of_length_eq_zero hl⟩
  | n + 1, [], hl, _ => by simp at hl
  | n + 1, c :: cs, hl, h => by
    obtain ⟨a, ha⟩ := h 0 (by omega)
    obtain ⟨xs, h1, h2⟩ := list_of_parts f n cs (by simpa using hl) (fun i hi => by simpa using h (i + 1) (by omega))
    refine ⟨a :: xs, by simp [h1], ?_⟩
    simp at ha
    rw [ha, h2]
    rfl
theorem tr_bytes {n : Nat} (ht : P.underlying t = some (.array n e)) (he : P.underlying e = some (.int .u8)) (hc : P.cellsOf e = 1) (hct : P.cellsOf t = n) (h : DataW.trod enc P w 0 (fun _ => true) true fuel t cs = some x) :
    ∃ xs : List (BitVec 8), xs.length = n ∧ cs = bcells xs := by
  obtain ⟨ys, m, _, _, hl, hyl, hf⟩ := DataW.trod_array ht h
  refine list_of_parts byteV n cs (hl.trans hct) fun i hi => ?_
  have := hf i hi
  rw [hc, Nat.mul_one] at this
  obtain ⟨y, hy⟩ : ∃ y, ys[i]? = some y := ⟨_, List.getElem?_eq_getElem (by omega)⟩
  exact tr_byte he (this.trans hy)
theorem tr_sl (ht : P.underlying t = some (.slice e)) (he : P.underlying e = some (.int .u8)) (hc : P.cellsOf e = 1) (h : DataW.trod enc P w 0 (fun _ => true) true fuel t cs = some x) :
    ∃ (v : Value) (xs : List (BitVec 8)), cs = [v] ∧ SlB w v xs := by
  rcases open_ints ht he hc h with ⟨rfl, _⟩ | ⟨a, len, cap, zs, rfl, _, hl, hm, hz, _, hcell, hwf⟩
  · exact ⟨_, [], rfl, SlB.nil _⟩
  · simp only [if_true] at hz
    by_cases h0 : cap = 0
    · subst h0
      obtain rfl : len = 0 := by omega
      exact ⟨_, [], rfl, .inl ⟨⟨_, rfl⟩, rfl⟩⟩
    · have g0 := hcell 0 (by omega)
      have ha : a.add 0 = a := rfl
      rw [ha] at g0
      obtain ⟨hb, hs⟩ := block_lt_of_cell g0
      refine ⟨_, (zs.take len).map fun n => BitVec.ofNat 8 n.toNat, rfl, .inr ⟨a.block, a.off, cap, ?_, by simp; omega, hm, hb, ?_⟩⟩
      · obtain ⟨b, o, s⟩ := a
        obtain rfl : s = none := hs
        have : min len zs.length = len := by omega
        simp [this]
      · intro j hj
        simp at hj
        have g := hcell j (by omega)
        rw [add_spot _ _ hs] at g
        rw [g]
        have hj' : j < zs.length := by omega
        have hw := hwf (zs.getD j 0) (by simp [List.getD, hj'])
        have hb' : 0 ≤ zs.getD j 0 ∧ zs.getD j 0 ≤ 255 := by simpa [Lit.wf, IntKind.min, IntKind.max, IntKind.bits, IntKind.signed] using hw
        have e1 : ((zs.take len).map fun n => BitVec.ofNat 8 n.toNat).getD j 0 = BitVec.ofNat 8 (zs.getD j 0).toNat := by
          simp [List.getD, hj', show j < len by omega]
        rw [e1]
        unfold byteV bv
        rw [BitVec.toNat_ofNat]
        congr 2
        omega
theorem cut_at (cs : List Value) (k n : Nat) : cs.drop k = (cs.drop k).take n ++ cs.drop (k + n) := by rw [← List.drop_drop, List.take_append_drop]
/-- A slice argument's value. -/
theorem slice_form {r : Reach} {base : Nat} {v : Value} (ht : P.underlying t = some (.slice e)) (h : Value.okWide P w r base t v) : ∃ a l c, v = .slice a l c := by
  unfold Value.okWide Cell.okWide Cell.ok at h
  rw [ht] at h
  cases v <;> simp at h <;> exact ⟨_, _, _, rfl⟩
theorem agg_form {r : Reach} {base : Nat} {v : Value} {fs : Array Field} (ht : P.underlying t = some (.struct fs)) (h : Value.okWide P w r base t v) : ∃ cs, v = .agg cs := by
  unfold Value.okWide at h
  rw [ht] at h
  obtain ⟨cs, rfl, _⟩ := h
  exact ⟨cs, rfl⟩
theorem okWide_cell {r : Reach} {base : Nat} {v : Value} {d : TypeDesc} (ht : P.underlying t = some d) (hd : (match d with | .struct _ | .array _ _ => true | _ => false) = false) (h : Value.okWide P w r base t v) : Cell.okWide P w r base t v := by
  unfold Value.okWide at h
  rw [ht] at h
  cases d <;> simp at hd <;> exact h
/-- A slice of bytes as an argument. -/
theorem open_slice8 {r : Reach} {base : Nat} {v : Value} {d : DataW H} {ps : List MemPlace} (ht : P.underlying t = some (.slice e)) (he : P.underlying e = some (.int .u8)) (hc : P.cellsOf e = 1) (hv : Value.okWide P w r base t v)
    (h : DataW.Trod enc P w 0 (fun _ => true) true t v d ps) : ∃ xs : List (BitVec 8), SlB w v xs := by
  obtain ⟨a, l, c, rfl⟩ := slice_form ht hv
  obtain ⟨m, hm⟩ := h
  obtain ⟨v', xs, e, hs⟩ := tr_sl ht he hc hm
  obtain rfl : Value.slice a l c = v' := by simpa [Value.cells] using e
  exact ⟨xs, hs⟩
/-- A slice of whatever elements, of so many cells each. -/
theorem tr_slice {sz : Nat} (ht : P.underlying t = some (.slice e)) (hc : P.cellsOf e = sz) (h0 : 0 < sz) (h : DataW.trod enc P w 0 (fun _ => true) true fuel t cs = some x) :
    ∃ (a : Option Addr) (len cap : Nat), cs = [.slice a len cap] ∧ len ≤ cap ∧ cap ≤ maxLen ∧ (0 < len → ∃ b off, a = some ⟨b, off, none⟩ ∧ b < w.heap.size ∧ ∀ i, i < len →
      ∃ cs' : List Value, cs'.length = sz ∧ (∀ j u, cs'[j]? = some u → w.cell? ⟨b, off + i * sz + j, none⟩ = some u) ∧ ∃ (n : Nat) (y : DataW H × List MemPlace), DataW.trod enc P w 0 (fun _ => true) true n e cs' = some y) := by
  rcases Deep.open_slice ht h with ⟨rfl, _⟩ | ⟨a, len, cap, m, n, D, Pl, rfl, _, hl, hm, hmm, _, hx⟩
  · exact ⟨none, 0, 0, rfl, Nat.le_refl _, Nat.zero_le _, fun h => absurd h (by omega)⟩
  · simp only [if_true] at hmm
    subst hmm
    refine ⟨some a, len, m, rfl, hl, hm, fun hp => ?_⟩
    rw [hc] at hx
    have hspot : a.block < w.heap.size ∧ a.spot = none := by
      obtain ⟨cs', h1, _⟩ := hx 0 (by omega)
      obtain ⟨_, hlen, hcell⟩ := World.cells?_some h1
      have g : (0 : Nat) < cs'.length := by omega
      have := hcell 0 (by omega)
      rw [List.getElem?_eq_getElem g] at this
      have ha : (a.add (0 * sz)).add 0 = a := by rw [Nat.zero_mul]; rfl
      rw [ha] at this
      exact block_lt_of_cell this
    refine ⟨a.block, a.off, ?_, hspot.1, fun i hi => ?_⟩
    · obtain ⟨b, o, s⟩ := a
      obtain rfl : s = none := hspot.2
      rfl
    · obtain ⟨cs', h1, h2⟩ := hx i (by omega)
      obtain ⟨_, hlen, hcell⟩ := World.cells?_some h1
      refine ⟨cs', hlen, fun j u hu => ?_, n, _, h2⟩
      have hj : j < sz := by rw [← hlen]; exact (List.getElem?_eq_some_iff.1 hu).1
      have g := hcell j hj
      rw [add_spot a _ hspot.2, add_spot _ _ rfl, hu] at g
      exact g
end
end Go.Proofs.Ytdnjjemdnlegdaa
namespace Go.Proofs.Ytdnjjemdnlegdaa.Dk
set_option linter.unusedVariables false
set_option linter.unusedSimpArgs false
open Go

structure D where
  b : List (BitVec 8)
  off : Bool
  left : Int
  mask : List (BitVec 8)
  writes : Int
  /-- Cells behind the bytes (a copy's spare). -/
  rest : List Value

def D.cap (d : D) : Nat := d.b.length + d.rest.length
def fresh (n : Nat) : D := ⟨List.replicate (n * 128) 0, false, -1, List.replicate 16 0, 0, []⟩
def has (d : D) (at_ n : Int) : Bool := decide (0 ≤ at_) && decide (0 ≤ n) && decide (at_ ≤ ((d.b.length / 128 : Nat) : Int)) && decide (n ≤ ((d.b.length / 128 : Nat) : Int) - at_)
/-- Why sectors can't be read or written. -/
def may (d : D) (at_ n : Int) : Int := if has d at_ n = true then (if d.off = true then 12 else 0) else 2
/-- A bit of the mask. -/
def bit (mask : List (BitVec 8)) (j : Nat) : Bool := ((mask.getD (j / 8) 0) >>> (j % 8)) &&& 1 == 1
def tornL (mask old fr : List (BitVec 8)) : List (BitVec 8) := (List.range 128).map fun j => if bit mask j = true then fr.getD j 0 else old.getD j 0
def sect (b : List (BitVec 8)) (k : Nat) : List (BitVec 8) := (b.drop (128 * k)).take 128
/-- Behind sector number i of those that are written, whole. -/
def wstep (d : D) (at_ : Nat) (xs : List (BitVec 8)) (i : Nat) : D :=
  { d with b := splice d.b (128 * (at_ + i)) (sect xs i), writes := IntKind.i64.wrap (d.writes + 1), left := max (d.left - 1) (-1) }
/-- The power goes at sector number i. -/
def tear (d : D) (at_ : Nat) (xs : List (BitVec 8)) (i : Nat) : D :=
  { d with b := splice d.b (128 * (at_ + i)) (tornL d.mask (sect d.b (at_ + i)) (sect xs i)), writes := IntKind.i64.wrap (d.writes + 1), off := true, left := -1 }
/-- n sectors from number i on. -/
def run (at_ : Nat) (xs : List (BitVec 8)) : Nat → Nat → D → D × Int
  | 0, _, d => (d, 0)
  | n + 1, i, d => if d.left = 0 then (tear d at_ xs i, 12) else run at_ xs n (i + 1) (wstep d at_ xs i)
def write (d : D) (at_ : Int) (xs : List (BitVec 8)) : D × Int :=
  if xs.length % 128 ≠ 0 then (d, 2)
  else if may d at_ ((xs.length / 128 : Nat) : Int) ≠ 0 then (d, may d at_ ((xs.length / 128 : Nat) : Int))
  else run at_.toNat xs (xs.length / 128) 0 d
def read (d : D) (at_ n : Int) : List (BitVec 8) × Int :=
  if may d at_ n ≠ 0 then ([], may d at_ n) else ((d.b.drop (128 * at_.toNat)).take (128 * n.toNat), 0)
def putAt (d : D) (at_ : Int) (xs : List (BitVec 8)) : D × Int :=
  if at_ < 0 ∨ (d.b.length : Int) < at_ ∨ (d.b.length : Int) - at_ < xs.length then (d, 2) else ({ d with b := splice d.b at_.toNat xs }, 0)
def cut (d : D) (whole : Int) (mask : List (BitVec 8)) : D × Int :=
  if whole < 0 then (d, 2) else if d.off = true then (d, 12) else ({ d with left := whole, mask := mask }, 0)
def restart (d : D) : D := { d with off := false, left := -1 }

/-- What every disk is. -/
structure Ok (d : D) : Prop where
  size : ∃ n, 1 ≤ n ∧ n ≤ 16384 ∧ d.b.length = n * 128
  mask : d.mask.length = 16
  left0 : -1 ≤ d.left
  left1 : d.left ≤ 9223372036854775807
  spare : d.b.length + d.rest.length ≤ 9223372036854775807

theorem sect_length (b : List (BitVec 8)) (k n : Nat) (h : b.length = n * 128) (hk : k < n) : (sect b k).length = 128 := by simp [sect]; omega
theorem tornL_length (mask old fr : List (BitVec 8)) : (tornL mask old fr).length = 128 := by simp [tornL]
theorem splice_length (L xs : List (BitVec 8)) (o : Nat) (h : o + xs.length ≤ L.length) : (splice L o xs).length = L.length := length_splice L o xs h

theorem has_iff (d : D) (at_ n : Int) : has d at_ n = true ↔ 0 ≤ at_ ∧ 0 ≤ n ∧ at_ ≤ ((d.b.length / 128 : Nat) : Int) ∧ n ≤ ((d.b.length / 128 : Nat) : Int) - at_ := by
  simp [has, and_assoc]
theorem may_zero (d : D) (at_ n : Int) : may d at_ n = 0 ↔ (0 ≤ at_ ∧ 0 ≤ n ∧ at_ + n ≤ ((d.b.length / 128 : Nat) : Int)) ∧ d.off = false := by
  unfold may
  by_cases h : has d at_ n = true
  · rw [if_pos h]
    have h' := (has_iff d at_ n).1 h
    cases hd : d.off <;> simp <;> omega
  · rw [if_neg h]
    constructor
    · intro h0; omega
    · rintro ⟨⟨h1, h2, h3⟩, _⟩
      exact absurd ((has_iff d at_ n).2 ⟨h1, h2, by omega, by omega⟩) h

theorem Ok.fresh (n : Nat) (h0 : 1 ≤ n) (h : n ≤ 16384) : Ok (fresh n) := ⟨⟨n, h0, h, by simp [Dk.fresh]⟩, by simp [Dk.fresh], by simp [Dk.fresh], by simp [Dk.fresh], by simp [Dk.fresh]; omega⟩
theorem Ok.of_b {d d' : D} (h : Ok d) (hb : d'.b.length = d.b.length) (hm : d'.mask.length = 16) (h0 : -1 ≤ d'.left) (h1 : d'.left ≤ 9223372036854775807) (hr : d'.rest = d.rest) : Ok d' := by
  obtain ⟨n, a, b, c⟩ := h.size
  exact ⟨⟨n, a, b, by omega⟩, hm, h0, h1, by rw [hr, hb]; exact h.spare⟩
theorem Ok.wstep {d : D} (h : Ok d) (at_ : Nat) (xs : List (BitVec 8)) (i n : Nat) (hx : xs.length = n * 128) (hi : i < n) (ha : (at_ + n) * 128 ≤ d.b.length) : Ok (wstep d at_ xs i) :=
  h.of_b (by rw [Dk.wstep]; exact splice_length _ _ _ (by rw [sect_length xs i n hx hi]; omega)) h.mask (by have := h.left0; simp [Dk.wstep]; omega) (by have := h.left1; simp [Dk.wstep]; omega) rfl
theorem Ok.tear {d : D} (h : Ok d) (at_ : Nat) (xs : List (BitVec 8)) (i n : Nat) (hi : i < n) (ha : (at_ + n) * 128 ≤ d.b.length) : Ok (tear d at_ xs i) :=
  h.of_b (by rw [Dk.tear]; exact splice_length _ _ _ (by rw [tornL_length]; omega)) h.mask (by simp [Dk.tear]) (by simp [Dk.tear]) rfl
theorem wstep_len {d : D} (at_ : Nat) (xs : List (BitVec 8)) (i n : Nat) (hx : xs.length = n * 128) (hi : i < n) (ha : (at_ + n) * 128 ≤ d.b.length) : (wstep d at_ xs i).b.length = d.b.length :=
  splice_length _ _ _ (by rw [sect_length xs i n hx hi]; omega)
theorem run_ok (at_ : Nat) (xs : List (BitVec 8)) (n : Nat) (hx : xs.length = n * 128) : ∀ (m i : Nat) (d : D), m + i = n → (at_ + n) * 128 ≤ d.b.length → Ok d → Ok (run at_ xs m i d).1 ∧ (run at_ xs m i d).1.b.length = d.b.length
  | 0, _, d, _, _, h => ⟨h, rfl⟩
  | m + 1, i, d, hm, ha, h => by
    unfold run
    by_cases hl : d.left = 0
    · rw [if_pos hl]
      exact ⟨h.tear at_ xs i n (by omega) ha, splice_length _ _ _ (by rw [tornL_length]; omega)⟩
    · rw [if_neg hl]
      have hw := wstep_len (d := d) at_ xs i n hx (by omega) ha
      have := run_ok at_ xs n hx m (i + 1) (wstep d at_ xs i) (by omega) (by rw [hw]; exact ha) (h.wstep at_ xs i n hx (by omega) ha)
      rw [hw] at this
      exact this
theorem write_ok {d : D} (h : Ok d) (at_ : Int) (xs : List (BitVec 8)) : Ok (write d at_ xs).1 ∧ (write d at_ xs).1.b.length = d.b.length := by
  unfold write
  by_cases h1 : xs.length % 128 ≠ 0
  · rw [if_pos h1]; exact ⟨h, rfl⟩
  rw [if_neg h1]
  by_cases h2 : may d at_ ((xs.length / 128 : Nat) : Int) ≠ 0
  · rw [if_pos h2]; exact ⟨h, rfl⟩
  rw [if_neg h2]
  have h2' := (may_zero d at_ ((xs.length / 128 : Nat) : Int)).1 (by omega)
  exact run_ok at_.toNat xs (xs.length / 128) (by omega) _ _ d (by omega) (by omega) h
theorem putAt_ok {d : D} (h : Ok d) (at_ : Int) (xs : List (BitVec 8)) : Ok (putAt d at_ xs).1 ∧ (putAt d at_ xs).1.b.length = d.b.length := by
  unfold putAt
  split
  · exact ⟨h, rfl⟩
  · have e := splice_length d.b xs at_.toNat (by omega)
    exact ⟨h.of_b e h.mask h.left0 h.left1 rfl, e⟩
theorem cut_ok {d : D} (h : Ok d) (whole : Int) (mask : List (BitVec 8)) (hm : mask.length = 16) (hw : whole ≤ 9223372036854775807) : Ok (cut d whole mask).1 ∧ (cut d whole mask).1.b = d.b := by
  unfold cut
  split
  · exact ⟨h, rfl⟩
  · split
    · exact ⟨h, rfl⟩
    · exact ⟨h.of_b rfl hm (by simp; omega) hw rfl, rfl⟩
theorem restart_ok {d : D} (h : Ok d) : Ok (restart d) := h.of_b rfl h.mask (by simp [restart]) (by simp [restart]) rfl
end Go.Proofs.Ytdnjjemdnlegdaa.Dk
namespace Go.Proofs.Ytdnjjemdnlegdaa.Dk
set_option linter.unusedVariables false
set_option linter.unusedSimpArgs false
open Go

theorem splice_getD (L cs : List (BitVec 8)) (o j : Nat) (h : o + cs.length ≤ L.length) :
    (splice L o cs).getD j 0 = if o ≤ j ∧ j < o + cs.length then cs.getD (j - o) 0 else L.getD j 0 := by
  unfold splice
  simp only [List.getD]
  by_cases h1 : j < o
  · rw [if_neg (by omega), List.getElem?_append_left (by simp; omega), List.getElem?_take, if_pos h1]
  · rw [List.getElem?_append_right (by simp; omega), List.length_take, Nat.min_eq_left (by omega)]
    by_cases h2 : j < o + cs.length
    · rw [if_pos ⟨by omega, h2⟩, List.getElem?_append_left (by omega)]
    · rw [if_neg (by omega), List.getElem?_append_right (by omega), List.getElem?_drop, show o + cs.length + (j - o - cs.length) = j by omega]
theorem sect_getD (b : List (BitVec 8)) (k j : Nat) (h : j < 128) : (sect b k).getD j 0 = b.getD (128 * k + j) 0 := by
  simp only [sect, List.getD, List.getElem?_take, List.getElem?_drop, if_pos h]
theorem tornL_getD (mask old fr : List (BitVec 8)) (j : Nat) (h : j < 128) : (tornL mask old fr).getD j 0 = if bit mask j = true then fr.getD j 0 else old.getD j 0 := by
  simp [tornL, List.getD, List.getElem?_map, List.getElem?_range h]

/-- Is byte j of the sectors that are written (from number i on, with so many whole ones left) written? -/
def hit (left : Int) (mask : List (BitVec 8)) (i j : Nat) : Bool :=
  decide (left < 0) || decide ((j / 128 : Nat) < (i : Int) + left) || (decide (((j / 128 : Nat) : Int) = i + left) && bit mask (j % 128))

theorem ext_getD {xs ys : List (BitVec 8)} (hl : xs.length = ys.length) (h : ∀ j, j < xs.length → xs.getD j 0 = ys.getD j 0) : xs = ys := by
  apply List.ext_getElem? 
  intro j
  by_cases hj : j < xs.length
  · have := h j hj
    rw [List.getElem?_eq_getElem hj, List.getElem?_eq_getElem (by omega)]
    simpa [List.getD, hj, show j < ys.length by omega] using this
  · rw [List.getElem?_eq_none (by omega), List.getElem?_eq_none (by omega)]

theorem wstep_getD (d : D) (at_ : Nat) (xs : List (BitVec 8)) (i n j : Nat) (hx : xs.length = n * 128) (hi : i < n) (ha : (at_ + n) * 128 ≤ d.b.length) :
    (wstep d at_ xs i).b.getD j 0 = if j / 128 = at_ + i then xs.getD (j - 128 * at_) 0 else d.b.getD j 0 := by
  have hs := sect_length xs i n hx hi
  rw [show (wstep d at_ xs i).b = splice d.b (128 * (at_ + i)) (sect xs i) from rfl, splice_getD _ _ _ _ (by omega), hs]
  by_cases h : j / 128 = at_ + i
  · rw [if_pos (by omega), if_pos h, sect_getD _ _ _ (by omega), show 128 * i + (j - 128 * (at_ + i)) = j - 128 * at_ by omega]
  · rw [if_neg (by omega), if_neg h]
theorem tear_getD (d : D) (at_ : Nat) (xs : List (BitVec 8)) (i n j : Nat) (hx : xs.length = n * 128) (hi : i < n) (ha : (at_ + n) * 128 ≤ d.b.length) :
    (tear d at_ xs i).b.getD j 0 = if j / 128 = at_ + i ∧ bit d.mask (j % 128) = true then xs.getD (j - 128 * at_) 0 else d.b.getD j 0 := by
  rw [show (tear d at_ xs i).b = splice d.b (128 * (at_ + i)) (tornL d.mask (sect d.b (at_ + i)) (sect xs i)) from rfl, splice_getD _ _ _ _ (by rw [tornL_length]; omega), tornL_length]
  by_cases h : j / 128 = at_ + i
  · rw [if_pos (by omega), tornL_getD _ _ _ _ (by omega), sect_getD _ _ _ (by omega), sect_getD _ _ _ (by omega), show 128 * i + (j - 128 * (at_ + i)) = j - 128 * at_ by omega,
      show 128 * (at_ + i) + (j - 128 * (at_ + i)) = j by omega, show j - 128 * (at_ + i) = j % 128 by omega]
    simp [h]
  · rw [if_neg (by omega), if_neg (fun hh => h hh.1)]

/-- What a write comes to: its bytes, its answer, its power. -/
theorem run_getD (at_ : Nat) (xs : List (BitVec 8)) (n : Nat) (hx : xs.length = n * 128) : ∀ (m i : Nat) (d : D), m + i = n → (at_ + n) * 128 ≤ d.b.length → -1 ≤ d.left →
    (∀ j, (run at_ xs m i d).1.b.getD j 0 = if at_ + i ≤ j / 128 ∧ j / 128 < at_ + n ∧ hit d.left d.mask (at_ + i) j = true then xs.getD (j - 128 * at_) 0 else d.b.getD j 0) ∧
    (run at_ xs m i d).2 = (if 0 ≤ d.left ∧ d.left < m then 12 else 0) ∧ (run at_ xs m i d).1.off = (if 0 ≤ d.left ∧ d.left < m then true else d.off) ∧
    (run at_ xs m i d).1.left = (if 0 ≤ d.left ∧ d.left < m then -1 else max (d.left - m) (-1)) ∧ (run at_ xs m i d).1.mask = d.mask
  | 0, i, d, hm, ha, h0 => by
    refine ⟨fun j => ?_, ?_, ?_, ?_, rfl⟩
    · rw [if_neg (by omega)]; rfl
    · rw [if_neg (by omega)]; rfl
    · rw [if_neg (by omega)]; rfl
    · rw [if_neg (by omega)]
      show d.left = _
      omega
  | m + 1, i, d, hm, ha, h0 => by
    unfold run
    by_cases hl : d.left = 0
    · rw [if_pos hl]
      refine ⟨fun j => ?_, ?_, ?_, ?_, rfl⟩
      · rw [tear_getD d at_ xs i n j hx (by omega) ha]
        by_cases h : j / 128 = at_ + i ∧ bit d.mask (j % 128) = true
        · rw [if_pos h, if_pos ⟨by omega, by omega, by simp [hit, hl, h.1, h.2]⟩]
        · rw [if_neg h, if_neg]
          rintro ⟨h1, h2, h3⟩
          simp only [hit, hl, Bool.or_eq_true, Bool.and_eq_true, decide_eq_true_eq] at h3
          rcases h3 with (h3 | h3) | h3
          · omega
          · omega
          · exact h ⟨by omega, h3.2⟩
      · rw [if_pos (by omega)]
      · rw [if_pos (by omega)]; rfl
      · rw [if_pos (by omega)]; rfl
    · rw [if_neg hl]
      have hw := wstep_len (d := d) at_ xs i n hx (by omega) ha
      obtain ⟨g1, g2, g3, g4, g5⟩ := run_getD at_ xs n hx m (i + 1) (wstep d at_ xs i) (by omega) (by rw [hw]; exact ha) (by simp [wstep]; omega)
      have e1 : (wstep d at_ xs i).left = max (d.left - 1) (-1) := rfl
      have e2 : (wstep d at_ xs i).mask = d.mask := rfl
      have e3 : (wstep d at_ xs i).off = d.off := rfl
      rw [e1] at g1 g2 g3 g4
      rw [e2] at g1 g5
      rw [e3] at g3
      have ec : (0 ≤ max (d.left - 1) (-1) ∧ max (d.left - 1) (-1) < (m : Int)) ↔ (0 ≤ d.left ∧ d.left < ((m + 1 : Nat) : Int)) := by omega
      refine ⟨fun j => ?_, ?_, ?_, ?_, g5⟩
      · rw [g1, wstep_getD d at_ xs i n j hx (by omega) ha]
        by_cases h : j / 128 = at_ + i
        · have hh : hit d.left d.mask (at_ + i) j = true := by
            simp only [hit, h, Bool.or_eq_true, Bool.and_eq_true, decide_eq_true_eq]
            by_cases h5 : d.left < 0
            · exact .inl (.inl h5)
            · exact .inl (.inr (by omega))
          rw [if_neg (by omega), if_pos h, if_pos ⟨by omega, by omega, hh⟩]
        · rw [if_neg h]
          by_cases h2 : at_ + (i + 1) ≤ j / 128 ∧ j / 128 < at_ + n
          · have eh : hit (max (d.left - 1) (-1)) d.mask (at_ + (i + 1)) j = hit d.left d.mask (at_ + i) j := by
              unfold hit
              by_cases h5 : d.left < 0
              · rw [show max (d.left - 1) (-1) = -1 by omega]
                simp [h5]
              · rw [show max (d.left - 1) (-1) = d.left - 1 by omega, show decide (d.left - 1 < 0) = decide (d.left < 0) by simp; omega,
                  show ((at_ + (i + 1) : Nat) : Int) + (d.left - 1) = ((at_ + i : Nat) : Int) + d.left by omega]
            rw [eh]
            by_cases h3 : hit d.left d.mask (at_ + i) j = true
            · rw [if_pos ⟨h2.1, h2.2, h3⟩, if_pos ⟨by omega, h2.2, h3⟩]
            · rw [if_neg (fun hh => h3 hh.2.2), if_neg (fun hh => h3 hh.2.2)]
          · rw [if_neg (fun hh => h2 ⟨hh.1, hh.2.1⟩), if_neg (fun hh => h2 ⟨by omega, hh.2.1⟩)]
      · rw [g2]
        by_cases hc : 0 ≤ d.left ∧ d.left < ((m + 1 : Nat) : Int)
        · rw [if_pos hc, if_pos (ec.2 hc)]
        · rw [if_neg hc, if_neg (fun hh => hc (ec.1 hh))]
      · rw [g3]
        by_cases hc : 0 ≤ d.left ∧ d.left < ((m + 1 : Nat) : Int)
        · rw [if_pos hc, if_pos (ec.2 hc)]
        · rw [if_neg hc, if_neg (fun hh => hc (ec.1 hh))]
      · rw [g4]
        by_cases hc : 0 ≤ d.left ∧ d.left < ((m + 1 : Nat) : Int)
        · rw [if_pos hc, if_pos (ec.2 hc)]
        · rw [if_neg hc, if_neg (fun hh => hc (ec.1 hh))]
          omega
end Go.Proofs.Ytdnjjemdnlegdaa.Dk
namespace Go.Proofs.Ytdnjjemdnlegdaa.Num
set_option linter.unusedVariables false
set_option linter.unusedSimpArgs false

theorem getD_take (b : List (BitVec 8)) (k j : Nat) (h : j < k) : (b.take k).getD j 0 = b.getD j 0 := by simp [List.getD, h]
/-- A number as so many bytes, the greatest first. -/
def num (n : Nat) : Nat → List (BitVec 8)
  | 0 => []
  | k + 1 => BitVec.ofNat 8 (n / 2 ^ (8 * k)) :: num n k
theorem num_length (n k : Nat) : (num n k).length = k := by
  induction k with
  | zero => rfl
  | succ k ih => simp [num, ih]
theorem num_getD (n k i : Nat) (h : i < k) : (num n k).getD i 0 = BitVec.ofNat 8 (n / 2 ^ (8 * (k - 1 - i))) := by
  induction k generalizing i with
  | zero => omega
  | succ k ih =>
    cases i with
    | zero => rfl
    | succ i =>
      have := ih i (by omega)
      rw [num, List.getD_cons_succ, this, show k + 1 - 1 - (i + 1) = k - 1 - i by omega]
theorem num_take (n k i : Nat) (h : i < k) : (num n k).take (i + 1) = (num n k).take i ++ [BitVec.ofNat 8 (n / 2 ^ (8 * (k - 1 - i)))] := by
  rw [← num_getD n k i h, List.take_succ_eq_append_getElem (by rw [num_length]; exact h)]
  simp [List.getD, num_length, h]
theorem num_drop (n k i : Nat) (h : i < k) : (num n k).drop i = BitVec.ofNat 8 (n / 2 ^ (8 * (k - 1 - i))) :: (num n k).drop (i + 1) := by
  rw [← num_getD n k i h, List.drop_eq_getElem_cons (by rw [num_length]; exact h)]
  simp [List.getD, num_length, h]
theorem num4 (n : Nat) : num n 4 = [BitVec.ofNat 8 (n / 16777216), BitVec.ofNat 8 (n / 65536), BitVec.ofNat 8 (n / 256), BitVec.ofNat 8 n] := by
  simp [num]
/-- The number that four bytes are. -/
def val4 (xs : List (BitVec 8)) : Nat := 16777216 * (xs.getD 0 0).toNat + 65536 * (xs.getD 1 0).toNat + 256 * (xs.getD 2 0).toNat + (xs.getD 3 0).toNat
theorem val4_lt (xs : List (BitVec 8)) : val4 xs < 4294967296 := by
  unfold val4
  have := (xs.getD 0 0).isLt
  have := (xs.getD 1 0).isLt
  have := (xs.getD 2 0).isLt
  have := (xs.getD 3 0).isLt
  omega
theorem val4_num (n : Nat) (h : n < 4294967296) (ys : List (BitVec 8)) : val4 (num n 4 ++ ys) = n := by
  rw [num4]
  simp only [val4, List.cons_append, List.nil_append, List.getD_cons_zero, List.getD_cons_succ, BitVec.toNat_ofNat]
  omega
theorem list4 (xs : List (BitVec 8)) (h : 4 ≤ xs.length) : xs.take 4 = [xs.getD 0 0, xs.getD 1 0, xs.getD 2 0, xs.getD 3 0] := by
  match xs, h with
  | a :: b :: c :: d :: l, _ => rfl
theorem num_val4 (xs : List (BitVec 8)) (h : 4 ≤ xs.length) : num (val4 xs) 4 = xs.take 4 := by
  rw [list4 xs h, num4]
  unfold val4
  generalize xs.getD 0 0 = a
  generalize xs.getD 1 0 = b
  generalize xs.getD 2 0 = c
  generalize xs.getD 3 0 = d
  have := a.isLt
  have := b.isLt
  have := c.isLt
  have := d.isLt
  congr 1
  · apply BitVec.eq_of_toNat_eq; rw [BitVec.toNat_ofNat]; omega
  congr 1
  · apply BitVec.eq_of_toNat_eq; rw [BitVec.toNat_ofNat]; omega
  congr 1
  · apply BitVec.eq_of_toNat_eq; rw [BitVec.toNat_ofNat]; omega
  congr 1
  · apply BitVec.eq_of_toNat_eq; rw [BitVec.toNat_ofNat]; omega
theorem val4_take (xs : List (BitVec 8)) (n : Nat) (h : 4 ≤ n) : val4 (xs.take n) = val4 xs := by
  unfold val4
  rw [getD_take _ _ _ (by omega), getD_take _ _ _ (by omega), getD_take _ _ _ (by omega), getD_take _ _ _ (by omega)]

end Go.Proofs.Ytdnjjemdnlegdaa.Num
namespace Go.Proofs.Ytdnjjemdnlegdaa.Slo
open Go Dk Num
set_option linter.unusedVariables false
set_option linter.unusedSimpArgs false

/-- How many sectors a text's slot takes. -/
def taken (n : Nat) : Nat := (n + 132) / 128
theorem taken_pos (n : Nat) : 1 ≤ taken n := by unfold taken; omega
theorem taken_ge (n : Nat) : n + 5 ≤ 128 * taken n := by unfold taken; omega
theorem taken_le (n : Nat) : 128 * taken n ≤ n + 132 := by unfold taken; omega
/-- A text's slot. -/
def laid (m : BitVec 8) (t : List (BitVec 8)) : List (BitVec 8) := m :: (num t.length 4 ++ (t ++ List.replicate (128 * taken t.length - 5 - t.length) 0))
theorem laid_length (m : BitVec 8) (t : List (BitVec 8)) : (laid m t).length = 128 * taken t.length := by
  have := taken_ge t.length
  simp [laid, num_length]; omega
theorem laid_val (m : BitVec 8) (t ys : List (BitVec 8)) (h : t.length < 4294967296) : val4 ((laid m t ++ ys).drop 1) = t.length := by
  unfold laid
  rw [List.cons_append, List.drop_succ_cons, List.drop_zero, List.append_assoc]
  exact val4_num _ h _
theorem laid_text (m : BitVec 8) (t ys : List (BitVec 8)) : ((laid m t ++ ys).drop 5).take t.length = t := by
  unfold laid
  rw [List.cons_append, List.drop_succ_cons, List.append_assoc, List.drop_left' (num_length _ _), List.append_assoc, List.take_left' rfl]
theorem laid_other (m m' : BitVec 8) (t : List (BitVec 8)) (j : Nat) (h : j ≠ 0) : (laid m t).getD j 0 = (laid m' t).getD j 0 := by
  cases j with
  | zero => exact absurd rfl h
  | succ j => rfl

inductive Found where
  | no
  | bad
  | text (t : List (BitVec 8))
/-- What stands where a slot may begin. -/
def slot (b : List (BitVec 8)) : Found :=
  if b.getD 0 0 = 0 then .no
  else if b.getD 0 0 ≠ 1 then .bad
  else if 262144 < val4 (b.drop 1) ∨ b.length < 128 * taken (val4 (b.drop 1)) then .bad
  else .text ((b.drop 5).take (val4 (b.drop 1)))
theorem slot_text {b t : List (BitVec 8)} (h : slot b = .text t) : b.getD 0 0 = 1 ∧ val4 (b.drop 1) = t.length ∧ t.length ≤ 262144 ∧ 128 * taken t.length ≤ b.length ∧ (b.drop 5).take t.length = t := by
  unfold slot at h
  by_cases h0 : b.getD 0 0 = 0
  · rw [if_pos h0] at h; cases h
  rw [if_neg h0] at h
  by_cases h1 : b.getD 0 0 ≠ 1
  · rw [if_pos h1] at h; cases h
  rw [if_neg h1] at h
  by_cases h2 : 262144 < val4 (b.drop 1) ∨ b.length < 128 * taken (val4 (b.drop 1))
  · rw [if_pos h2] at h; cases h
  rw [if_neg h2] at h
  have h' : (b.drop 5).take (val4 (b.drop 1)) = t := by injection h
  have hg := taken_ge (val4 (b.drop 1))
  have hl : t.length = val4 (b.drop 1) := by rw [← h', List.length_take, List.length_drop]; omega
  refine ⟨Classical.not_not.1 h1, hl.symm, by omega, by rw [hl]; omega, by rw [hl]; exact h'⟩
theorem slot_of {b t : List (BitVec 8)} (h0 : b.getD 0 0 = 1) (h1 : val4 (b.drop 1) = t.length) (h2 : t.length ≤ 262144) (h3 : 128 * taken t.length ≤ b.length) (h4 : (b.drop 5).take t.length = t) : slot b = .text t := by
  unfold slot
  rw [if_neg (by rw [h0]; decide), if_neg (by rw [h0]; decide), h1, if_neg (by omega), h4]
theorem slot_laid (t ys : List (BitVec 8)) (h : t.length ≤ 262144) : slot (laid 1 t ++ ys) = .text t :=
  slot_of rfl (laid_val _ _ _ (by omega)) h (by rw [List.length_append, laid_length]; omega) (laid_text _ _ _)
theorem slot_congr {b b' t : List (BitVec 8)} (h : slot b = .text t) (hl : b'.length = b.length) (ht : b'.take (128 * taken t.length) = b.take (128 * taken t.length)) : slot b' = .text t := by
  obtain ⟨h0, h1, h2, h3, h4⟩ := slot_text h
  have hg := taken_ge t.length
  have hj : ∀ j, j < 128 * taken t.length → b'.getD j 0 = b.getD j 0 := fun j hj => by rw [← Num.getD_take b' _ j hj, ht, Num.getD_take b _ j hj]
  have hv : val4 (b'.drop 1) = val4 (b.drop 1) := by
    have e : ∀ (c : List (BitVec 8)) i, (c.drop 1).getD i 0 = c.getD (1 + i) 0 := fun c i => by simp [List.getD, Nat.add_comm]
    unfold val4
    rw [e, e, e, e, e, e, e, e, hj _ (by omega), hj _ (by omega), hj _ (by omega), hj _ (by omega)]
  refine slot_of (by rw [hj 0 (by omega)]; exact h0) (hv.trans h1) h2 (by omega) ?_
  have : ((b'.take (128 * taken t.length)).drop 5).take t.length = ((b.take (128 * taken t.length)).drop 5).take t.length := by rw [ht]
  rw [List.drop_take, List.drop_take, List.take_take, List.take_take, show min t.length (128 * taken t.length - 5) = t.length by omega] at this
  rw [this]; exact h4

/-- What a region's bytes tell: its texts, and whether nothing is wrong. -/
def parse : Nat → List (BitVec 8) → List (List (BitVec 8)) × Bool
  | 0, _ => ([], true)
  | f + 1, b => if b = [] then ([], true) else match slot b with
    | .no => ([], true)
    | .bad => ([], false)
    | .text t => (t :: (parse f (b.drop (128 * taken t.length))).1, (parse f (b.drop (128 * taken t.length))).2)
theorem parse_nil (f : Nat) : parse f [] = ([], true) := by cases f <;> simp [parse]
theorem parse_no (f : Nat) (b : List (BitVec 8)) (h : slot b = .no) : parse f b = ([], true) := by
  cases f with
  | zero => rfl
  | succ f => unfold parse; split <;> simp [h]
theorem parse_bad (f : Nat) (b : List (BitVec 8)) (hb : b ≠ []) (h : slot b = .bad) : parse (f + 1) b = ([], false) := by unfold parse; rw [if_neg hb, h]
theorem parse_text (f : Nat) (b t : List (BitVec 8)) (hb : b ≠ []) (h : slot b = .text t) : parse (f + 1) b = (t :: (parse f (b.drop (128 * taken t.length))).1, (parse f (b.drop (128 * taken t.length))).2) := by simp only [parse, if_neg hb, h]
def used : List (List (BitVec 8)) → Nat
  | [] => 0
  | t :: ts => taken t.length + used ts
theorem used_append (xs ys : List (List (BitVec 8))) : used (xs ++ ys) = used xs + used ys := by
  induction xs with
  | nil => simp [used]
  | cons t xs ih => simp only [List.cons_append, used, ih]; omega
theorem used_ge (ts : List (List (BitVec 8))) : ts.length ≤ used ts := by
  induction ts with
  | nil => exact Nat.le_refl _
  | cons t ts ih => have := taken_pos t.length; simp only [used, List.length_cons]; omega
/-- Behind the texts there is nothing, or no slot. -/
theorem parse_end (f : Nat) : ∀ (b : List (BitVec 8)) (ts : List (List (BitVec 8))), b.length ≤ 128 * f → parse f b = (ts, true) →
    128 * used ts ≤ b.length ∧ (128 * used ts < b.length → b.getD (128 * used ts) 0 = 0) ∧ ∀ t ∈ ts, t.length ≤ 262144 := by
  induction f with
  | zero =>
    intro b ts hl h
    obtain rfl : ts = [] := by simpa [parse, eq_comm] using h
    exact ⟨by simp [used], fun hh => by simp [used] at hh; omega, fun t ht => by simp at ht⟩
  | succ f ih =>
    intro b ts hl h
    by_cases hb : b = []
    · subst hb
      rw [parse_nil] at h
      obtain rfl : ts = [] := by simpa [eq_comm] using h
      exact ⟨by simp [used], fun hh => by simp [used] at hh, fun t ht => by simp at ht⟩
    · cases hs : slot b with
      | no =>
        rw [parse_no _ _ hs] at h
        obtain rfl : ts = [] := by simpa [eq_comm] using h
        refine ⟨by simp [used], fun _ => ?_, fun t ht => by simp at ht⟩
        unfold slot at hs
        by_cases h0 : b.getD 0 0 = 0
        · exact h0
        · rw [if_neg h0] at hs
          exfalso
          split at hs
          · cases hs
          · split at hs <;> cases hs
      | bad => rw [parse_bad _ _ hb hs] at h; simp at h
      | text t =>
        rw [parse_text _ _ _ hb hs] at h
        obtain ⟨_, _, h2, h3, _⟩ := slot_text hs
        have hp := taken_pos t.length
        have hts : ts = t :: (parse f (b.drop (128 * taken t.length))).1 := by simpa [eq_comm] using congrArg Prod.fst h
        have htr : (parse f (b.drop (128 * taken t.length))).2 = true := congrArg Prod.snd h
        obtain ⟨tr, htr1⟩ : ∃ tr, (parse f (b.drop (128 * taken t.length))).1 = tr := ⟨_, rfl⟩
        rw [htr1] at hts
        subst hts
        obtain ⟨g1, g2, g3⟩ := ih (b.drop (128 * taken t.length)) tr (by simp; omega) (Prod.ext htr1 htr)
        rw [List.length_drop] at g1 g2
        refine ⟨by simp only [used]; omega, fun hh => ?_, fun x hx => ?_⟩
        · simp only [used] at hh ⊢
          have := g2 (by omega)
          rw [show 128 * (taken t.length + used tr) = 128 * taken t.length + 128 * used tr by omega]
          simpa [List.getD] using this
        · rcases List.mem_cons.1 hx with rfl | hx
          · exact h2
          · exact g3 x hx
/-- Other bytes behind the texts: the texts are told, and then what stands there. -/
theorem parse_grow (f : Nat) : ∀ (b b' : List (BitVec 8)) (ts : List (List (BitVec 8))), b.length ≤ 128 * f → parse f b = (ts, true) → b'.length = b.length → b'.take (128 * used ts) = b.take (128 * used ts) →
    parse f b' = (ts ++ (parse (f - ts.length) (b'.drop (128 * used ts))).1, (parse (f - ts.length) (b'.drop (128 * used ts))).2) := by
  induction f with
  | zero =>
    intro b b' ts hl h hl' ht
    obtain rfl : ts = [] := by simpa [parse, eq_comm] using h
    simp [parse]
  | succ f ih =>
    intro b b' ts hl h hl' ht
    by_cases hts : ts = []
    · subst hts
      simp [used]
    · by_cases hb : b = []
      · subst hb
        rw [parse_nil] at h
        exact absurd (by simpa [eq_comm] using h) hts
      · cases hs : slot b with
        | no =>
          rw [parse_no _ _ hs] at h
          exact absurd (by simpa [eq_comm] using h) hts
        | bad => rw [parse_bad _ _ hb hs] at h; simp at h
        | text t =>
          rw [parse_text _ _ _ hb hs] at h
          obtain ⟨_, _, h2, h3, _⟩ := slot_text hs
          have hp := taken_pos t.length
          have hts : ts = t :: (parse f (b.drop (128 * taken t.length))).1 := by simpa [eq_comm] using congrArg Prod.fst h
          have htr : (parse f (b.drop (128 * taken t.length))).2 = true := congrArg Prod.snd h
          obtain ⟨tr, htr'⟩ : ∃ tr, (parse f (b.drop (128 * taken t.length))).1 = tr := ⟨_, rfl⟩
          rw [htr'] at hts
          subst hts
          simp only [used] at ht ⊢
          have ht1 : b'.take (128 * taken t.length) = b.take (128 * taken t.length) := by
            have := congrArg (List.take (128 * taken t.length)) ht
            rwa [List.take_take, List.take_take, show min (128 * taken t.length) (128 * (taken t.length + used tr)) = 128 * taken t.length by omega] at this
          have ht2 : (b'.drop (128 * taken t.length)).take (128 * used tr) = (b.drop (128 * taken t.length)).take (128 * used tr) := by
            have := congrArg (List.drop (128 * taken t.length)) ht
            rwa [List.drop_take, List.drop_take, show 128 * (taken t.length + used tr) - 128 * taken t.length = 128 * used tr by omega] at this
          have hb' : b' ≠ [] := by intro e; rw [e] at hl'; exact hb (List.eq_nil_of_length_eq_zero hl'.symm)
          rw [parse_text _ _ _ hb' (slot_congr hs hl' ht1), ih (b.drop (128 * taken t.length)) (b'.drop (128 * taken t.length)) tr (by simp; omega) (Prod.ext htr' htr) (by simp [hl']) ht2]
          rw [List.drop_drop, show 128 * taken t.length + 128 * used tr = 128 * (taken t.length + used tr) by omega]
          simp
theorem parse_same (f : Nat) (b b' : List (BitVec 8)) (ts : List (List (BitVec 8))) (hl : b.length ≤ 128 * f) (h : parse f b = (ts, true)) (hl' : b'.length = b.length) (ht : b'.take (128 * used ts) = b.take (128 * used ts))
    (h0 : 128 * used ts < b.length → b'.getD (128 * used ts) 0 = 0) : parse f b' = (ts, true) := by
  rw [parse_grow f b b' ts hl h hl' ht]
  have he := parse_end f b ts hl h
  by_cases hlt : 128 * used ts < b.length
  · have hs : slot (b'.drop (128 * used ts)) = .no := by
      unfold slot
      rw [if_pos]
      have := h0 hlt
      simpa [List.getD] using this
    rw [parse_no _ _ hs]; simp
  · rw [List.drop_of_length_le (by omega), parse_nil]; simp
theorem parse_more (f : Nat) (b b' t ys : List (BitVec 8)) (ts : List (List (BitVec 8))) (hl : b.length ≤ 128 * f) (h : parse f b = (ts, true)) (hl' : b'.length = b.length) (ht : b'.take (128 * used ts) = b.take (128 * used ts))
    (hd : b'.drop (128 * used ts) = laid 1 t ++ ys) (h0 : ys ≠ [] → ys.getD 0 0 = 0) (htl : t.length ≤ 262144) : parse f b' = (ts ++ [t], true) := by
  rw [parse_grow f b b' ts hl h hl' ht, hd]
  have hu := used_ge ts
  have hp := taken_pos t.length
  have hln : b'.length - 128 * used ts = 128 * taken t.length + ys.length := by
    have := congrArg List.length hd
    simpa [laid_length] using this
  obtain ⟨k, hk⟩ : ∃ k, f - ts.length = k + 1 := ⟨f - ts.length - 1, by omega⟩
  rw [hk, parse_text _ _ _ (by simp [laid]) (slot_laid t ys htl), List.drop_left' (laid_length _ _)]
  by_cases hy : ys = []
  · subst hy; rw [parse_nil]
  · rw [parse_no _ ys (by unfold slot; rw [if_pos (h0 hy)])]

/-- A log: its region, its texts, how many sectors they take. -/
structure L where
  from_ : Nat
  sectors : Nat
  texts : List (List (BitVec 8))
  used : Nat
  dead : Bool
def region (d : D) (fr n : Nat) : List (BitVec 8) := (d.b.drop (128 * fr)).take (128 * n)
theorem region_length (d : D) (fr n : Nat) (h : 128 * (fr + n) ≤ d.b.length) : (region d fr n).length = 128 * n := by simp [region]; omega
theorem region_getD (d : D) (fr n j : Nat) (h : j < 128 * n) : (region d fr n).getD j 0 = d.b.getD (128 * fr + j) 0 := by
  unfold region
  rw [Num.getD_take _ _ _ h]
  simp [List.getD]
/-- What is written first. -/
def whole (l : L) (t : List (BitVec 8)) : List (BitVec 8) := laid 0 t ++ if l.used + taken t.length < l.sectors then List.replicate 128 0 else []
def append (d : D) (l : L) (t : List (BitVec 8)) : D × L × Int :=
  if (l.dead || d.off) = true then (d, l, 12)
  else if 262144 < t.length then (d, l, 3)
  else if l.sectors - l.used < taken t.length then (d, l, 7)
  else if (write d ((l.from_ + l.used : Nat) : Int) (whole l t)).2 ≠ 0 then ((write d ((l.from_ + l.used : Nat) : Int) (whole l t)).1, { l with dead := true }, (write d ((l.from_ + l.used : Nat) : Int) (whole l t)).2)
  else if (write (write d ((l.from_ + l.used : Nat) : Int) (whole l t)).1 ((l.from_ + l.used : Nat) : Int) ((laid 1 t).take 128)).2 ≠ 0 then
    ((write (write d ((l.from_ + l.used : Nat) : Int) (whole l t)).1 ((l.from_ + l.used : Nat) : Int) ((laid 1 t).take 128)).1, { l with dead := true }, (write (write d ((l.from_ + l.used : Nat) : Int) (whole l t)).1 ((l.from_ + l.used : Nat) : Int) ((laid 1 t).take 128)).2)
  else ((write (write d ((l.from_ + l.used : Nat) : Int) (whole l t)).1 ((l.from_ + l.used : Nat) : Int) ((laid 1 t).take 128)).1, { l with texts := l.texts ++ [t], used := l.used + taken t.length }, 0)
def room (l : L) : Int := max (-1) (min 262144 (((l.sectors - l.used : Nat) : Int) * 128 - 5))

/-- A log that is on a disk. -/
structure Is (d : D) (l : L) : Prop where
  fit : 128 * (l.from_ + l.sectors) ≤ d.b.length
  used_eq : l.used = used l.texts
  parse_eq : parse l.sectors (region d l.from_ l.sectors) = (l.texts, true)

theorem whole_length (l : L) (t : List (BitVec 8)) : (whole l t).length = 128 * (taken t.length + if l.used + taken t.length < l.sectors then 1 else 0) := by
  unfold whole
  rw [List.length_append, laid_length]
  split <;> simp <;> omega
theorem Is.le {d : D} {l : L} (h : Is d l) : l.used ≤ l.sectors ∧ (l.used < l.sectors → d.b.getD (128 * (l.from_ + l.used)) 0 = 0) ∧ ∀ t ∈ l.texts, t.length ≤ 262144 := by
  have hr := region_length d l.from_ l.sectors h.fit
  obtain ⟨h1, h2, h3⟩ := parse_end l.sectors _ _ (by omega) h.parse_eq
  rw [hr, ← h.used_eq] at h1 h2
  refine ⟨by omega, fun hh => ?_, h3⟩
  have := h2 (by omega)
  rw [region_getD _ _ _ _ (by omega)] at this
  rwa [show 128 * (l.from_ + l.used) = 128 * l.from_ + 128 * l.used by omega]
/-- A write of sectors that are there. -/
theorem write_many (d : D) (k n : Nat) (xs : List (BitVec 8)) (hx : xs.length = 128 * n) (hl : 128 * (k + n) ≤ d.b.length) (ho : d.off = false) (h0 : -1 ≤ d.left) :
    (write d (k : Int) xs).1.b.length = d.b.length ∧
    (∀ j, (write d (k : Int) xs).1.b.getD j 0 = if k ≤ j / 128 ∧ j / 128 < k + n ∧ hit d.left d.mask k j = true then xs.getD (j - 128 * k) 0 else d.b.getD j 0) ∧
    (write d (k : Int) xs).2 = (if 0 ≤ d.left ∧ d.left < n then 12 else 0) ∧ (write d (k : Int) xs).1.off = (if 0 ≤ d.left ∧ d.left < n then true else false) ∧
    (write d (k : Int) xs).1.left = (if 0 ≤ d.left ∧ d.left < n then -1 else max (d.left - n) (-1)) ∧ (write d (k : Int) xs).1.mask = d.mask := by
  have hm : may d (k : Int) ((xs.length / 128 : Nat) : Int) = 0 := (may_zero _ _ _).2 ⟨⟨by omega, by omega, by omega⟩, ho⟩
  have hw : write d (k : Int) xs = run k xs n 0 d := by
    unfold write
    rw [if_neg (by omega), if_neg (by omega), Int.toNat_natCast, show xs.length / 128 = n by omega]
  have hlen : ∀ (m i : Nat) (d : D), m + i = n → 128 * (k + n) ≤ d.b.length → (run k xs m i d).1.b.length = d.b.length := by
    intro m
    induction m with
    | zero => intro i d _ _; rfl
    | succ m ih =>
      intro i d hm hl
      unfold run
      split
      · exact splice_length _ _ _ (by rw [tornL_length]; omega)
      · have hw := wstep_len (d := d) k xs i n (by omega) (by omega) (by omega)
        rw [ih (i + 1) _ (by omega) (by omega), hw]
  rw [hw]
  obtain ⟨g1, g2, g3, g4, g5⟩ := run_getD k xs n (by omega) n 0 d (by omega) (by omega) h0
  refine ⟨hlen n 0 d (by omega) hl, fun j => ?_, g2, by rw [g3, ho], g4, g5⟩
  simpa using g1 j
theorem hit_all (left : Int) (mask : List (BitVec 8)) (k n j : Nat) (h : ¬ (0 ≤ left ∧ left < n)) (h1 : k ≤ j / 128) (h2 : j / 128 < k + n) : hit left mask k j = true := by
  unfold hit
  by_cases hn : left < 0
  · simp [hn]
  · simp only [Bool.or_eq_true, decide_eq_true_eq]
    exact .inl (.inr (by omega))
/-- Other bytes outside of a region that is told. -/
theorem region_ext (d d' : D) (fr n u : Nat) (hl : d'.b.length = d.b.length) (h : ∀ j, j < 128 * u → d'.b.getD (128 * fr + j) 0 = d.b.getD (128 * fr + j) 0) (hf : 128 * (fr + n) ≤ d.b.length) (hu : u ≤ n) :
    (region d' fr n).length = (region d fr n).length ∧ (region d' fr n).take (128 * u) = (region d fr n).take (128 * u) := by
  have e1 := region_length d fr n hf
  have e2 := region_length d' fr n (by omega)
  refine ⟨by omega, ext_getD (by simp [e1, e2]) fun j hj => ?_⟩
  have hj' : j < 128 * u := by simp at hj; omega
  rw [Num.getD_take _ _ _ hj', Num.getD_take _ _ _ hj', region_getD _ _ _ _ (by omega), region_getD _ _ _ _ (by omega), h j hj']

/-- What comes of an append that is not refused: told OK it is there; told else the power is gone, and it is there whole, or nothing of it. -/
theorem append_spec {d : D} {l : L} (h : Is d l) (h0 : -1 ≤ d.left) (t : List (BitVec 8)) (hdead : l.dead = false) (hoff : d.off = false) (ht : t.length ≤ 262144) (hfit : l.used + taken t.length ≤ l.sectors) :
    ((append d l t).2.2 = 0 ∧ Is (append d l t).1 (append d l t).2.1 ∧ (append d l t).2.1 = { l with texts := l.texts ++ [t], used := l.used + taken t.length } ∧ (append d l t).1.off = false) ∨
    ((append d l t).2.2 = 12 ∧ (append d l t).1.off = true ∧ (append d l t).2.1 = { l with dead := true } ∧ (append d l t).1.left = -1 ∧
      (parse l.sectors (region (append d l t).1 l.from_ l.sectors) = (l.texts, true) ∨ parse l.sectors (region (append d l t).1 l.from_ l.sectors) = (l.texts ++ [t], true))) := by
  obtain ⟨hle, hz, htx⟩ := h.le
  have hfitd := h.fit
  have hp := taken_pos t.length
  have hg := taken_ge t.length
  have hrl := region_length d l.from_ l.sectors hfitd
  have hll := laid_length 0 t
  have hll1 := laid_length 1 t
  have hwl := whole_length l t
  obtain ⟨n, hn⟩ : ∃ n, taken t.length + (if l.used + taken t.length < l.sectors then 1 else 0) = n := ⟨_, rfl⟩
  rw [hn] at hwl
  have hn1 : l.used + n ≤ l.sectors ∧ taken t.length ≤ n ∧ (l.used + taken t.length < l.sectors → n = taken t.length + 1) ∧ n ≤ taken t.length + 1 := by
    split at hn <;> omega
  obtain ⟨w1, w2, w3, w4, w5, w6⟩ := write_many d (l.from_ + l.used) n (whole l t) hwl (by omega) hoff h0
  have hwg : ∀ j, j < 128 * taken t.length → (whole l t).getD j 0 = (laid 0 t).getD j 0 := fun j hj => by
    unfold whole
    simp only [List.getD]
    rw [List.getElem?_append_left (by omega)]
  have hwz : ∀ j, 128 * taken t.length ≤ j → (whole l t).getD j 0 = 0 := fun j hj => by
    unfold whole
    simp only [List.getD]
    rw [List.getElem?_append_right (by omega)]
    split
    · rw [List.getElem?_replicate]; split <;> rfl
    · rfl
  have h00 : (laid 0 t).getD 0 0 = 0 := rfl
  have h10 : (laid 1 t).getD 0 0 = 1 := rfl
  unfold append
  rw [if_neg (by simp [hdead, hoff]), if_neg (by omega), if_neg (by omega)]
  by_cases hcut : 0 ≤ d.left ∧ d.left < n
  · rw [if_pos hcut] at w3 w4 w5
    rw [if_pos (by rw [w3]; decide)]
    refine .inr ⟨w3, w4, rfl, w5, .inl ?_⟩
    obtain ⟨r1, r2⟩ := region_ext d (write d ((l.from_ + l.used : Nat) : Int) (whole l t)).1 l.from_ l.sectors l.used w1 (fun j hj => by rw [w2, if_neg (by omega)]) hfitd hle
    refine parse_same l.sectors _ _ l.texts (by omega) h.parse_eq r1 (by rw [← h.used_eq]; exact r2) (fun hh => ?_)
    rw [← h.used_eq] at hh ⊢
    rw [region_getD _ _ _ _ (by omega), w2]
    have hz' := hz (by omega)
    rw [show 128 * l.from_ + 128 * l.used = 128 * (l.from_ + l.used) by omega]
    split
    · rw [show 128 * (l.from_ + l.used) - 128 * (l.from_ + l.used) = 0 by omega, hwg 0 (by omega)]; exact h00
    · exact hz'
  · rw [if_neg hcut] at w3 w4 w5
    rw [if_neg (by rw [w3]; decide)]
    obtain ⟨d1, hd1⟩ : ∃ d1, (write d ((l.from_ + l.used : Nat) : Int) (whole l t)).1 = d1 := ⟨_, rfl⟩
    rw [hd1] at w1 w2 w4 w5 w6 ⊢
    have w2' : ∀ j, l.from_ + l.used ≤ j / 128 → j / 128 < l.from_ + l.used + n → d1.b.getD j 0 = (whole l t).getD (j - 128 * (l.from_ + l.used)) 0 := fun j a b => by
      rw [w2, if_pos ⟨a, b, hit_all _ _ _ _ _ hcut a b⟩]
    have w2o : ∀ j, ¬ (l.from_ + l.used ≤ j / 128 ∧ j / 128 < l.from_ + l.used + n) → d1.b.getD j 0 = d.b.getD j 0 := fun j a => by rw [w2, if_neg (fun hh => a ⟨hh.1, hh.2.1⟩)]
    have hl128 : ((laid 1 t).take 128).length = 128 * 1 := by rw [List.length_take, hll1]; omega
    obtain ⟨v1, v2, v3, v4, v5, v6⟩ := write_many d1 (l.from_ + l.used) 1 ((laid 1 t).take 128) hl128 (by omega) w4 (by rw [w5]; omega)
    obtain ⟨d2, hd2⟩ : ∃ d2, (write d1 ((l.from_ + l.used : Nat) : Int) ((laid 1 t).take 128)).1 = d2 := ⟨_, rfl⟩
    rw [hd2] at v1 v2 v4 v5 v6 ⊢
    -- the bytes behind both writes: those of the slot with one of the marks
    have hb2 : ∃ m : BitVec 8, (m = 0 ∨ m = 1) ∧ (¬ (0 ≤ d1.left ∧ d1.left < (1 : Nat)) → m = 1) ∧
        (∀ j, j < 128 * taken t.length → d2.b.getD (128 * (l.from_ + l.used) + j) 0 = (laid m t).getD j 0) := by
      refine ⟨if hit d1.left d1.mask (l.from_ + l.used) (128 * (l.from_ + l.used)) = true then 1 else 0, by split <;> simp, fun hh => by rw [if_pos (hit_all _ _ _ 1 _ hh (by omega) (by omega))], fun j hj => ?_⟩
      rw [v2]
      have hd1j : d1.b.getD (128 * (l.from_ + l.used) + j) 0 = (laid 0 t).getD j 0 := by
        rw [w2' _ (by omega) (by omega), show 128 * (l.from_ + l.used) + j - 128 * (l.from_ + l.used) = j by omega, hwg j hj]
      by_cases hj0 : j = 0
      · subst hj0
        rw [Nat.add_zero]
        by_cases hh : hit d1.left d1.mask (l.from_ + l.used) (128 * (l.from_ + l.used)) = true
        · rw [if_pos ⟨by omega, by omega, hh⟩, if_pos hh, show 128 * (l.from_ + l.used) - 128 * (l.from_ + l.used) = 0 by omega, Num.getD_take _ _ _ (by omega)]
        · rw [if_neg (fun x => hh x.2.2), if_neg hh]; exact hd1j
      · rw [laid_other _ 0 t j hj0]
        split
        · rw [show 128 * (l.from_ + l.used) + j - 128 * (l.from_ + l.used) = j by omega, Num.getD_take _ _ _ (by omega), laid_other 1 0 t j hj0]
        · exact hd1j
    have hb2n : l.used + taken t.length < l.sectors → d2.b.getD (128 * (l.from_ + l.used) + 128 * taken t.length) 0 = 0 := fun hh => by
      have hn' := hn1.2.2.1 hh
      rw [v2, if_neg (by omega), w2' _ (by omega) (by omega), show 128 * (l.from_ + l.used) + 128 * taken t.length - 128 * (l.from_ + l.used) = 128 * taken t.length by omega]
      exact hwz _ (Nat.le_refl _)
    have hb2o : ∀ j, j < 128 * l.used → d2.b.getD (128 * l.from_ + j) 0 = d.b.getD (128 * l.from_ + j) 0 := fun j hj => by
      rw [v2, if_neg (by omega), w2o _ (by omega)]
    obtain ⟨m, hm01, hm1, hbm⟩ := hb2
    obtain ⟨r1, r2⟩ := region_ext d d2 l.from_ l.sectors l.used (v1.trans w1) hb2o hfitd hle
    have hmore : m = 1 → parse l.sectors (region d2 l.from_ l.sectors) = (l.texts ++ [t], true) := fun hm => by
      subst hm
      have hlen2 : (region d2 l.from_ l.sectors).length = 128 * l.sectors := by omega
      refine parse_more l.sectors _ _ t ((region d2 l.from_ l.sectors).drop (128 * (l.used + taken t.length))) l.texts (by omega) h.parse_eq r1 (by rw [← h.used_eq]; exact r2) ?_ (fun hy => ?_) ht
      · rw [← h.used_eq]
        refine ext_getD (by rw [List.length_drop, List.length_append, hll1, List.length_drop, hlen2]; omega) fun j hj => ?_
        have hj' : j < 128 * l.sectors - 128 * l.used := by simpa [hlen2] using hj
        have e1 : ((region d2 l.from_ l.sectors).drop (128 * l.used)).getD j 0 = d2.b.getD (128 * (l.from_ + l.used) + j) 0 := by
          rw [show ((region d2 l.from_ l.sectors).drop (128 * l.used)).getD j 0 = (region d2 l.from_ l.sectors).getD (128 * l.used + j) 0 by simp [List.getD], region_getD _ _ _ _ (by omega)]
          congr 1; omega
        rw [e1]
        by_cases hjt : j < 128 * taken t.length
        · rw [hbm j hjt]
          simp only [List.getD]
          rw [List.getElem?_append_left (by omega)]
        · simp only [List.getD]
          rw [List.getElem?_append_right (by omega), hll1, List.getElem?_drop]
          have := region_getD d2 l.from_ l.sectors (128 * (l.used + taken t.length) + (j - 128 * taken t.length)) (by omega)
          simp only [List.getD] at this
          rw [this]
          congr 2; omega
      · have hlt : l.used + taken t.length < l.sectors := by
          rcases Nat.lt_or_ge (l.used + taken t.length) l.sectors with a | a
          · exact a
          · exact absurd (List.drop_of_length_le (by omega)) hy
        rw [show ((region d2 l.from_ l.sectors).drop (128 * (l.used + taken t.length))).getD 0 0 = (region d2 l.from_ l.sectors).getD (128 * (l.used + taken t.length)) 0 by simp [List.getD], region_getD _ _ _ _ (by omega),
          show 128 * l.from_ + 128 * (l.used + taken t.length) = 128 * (l.from_ + l.used) + 128 * taken t.length by omega]
        exact hb2n hlt
    by_cases hcut2 : 0 ≤ d1.left ∧ d1.left < (1 : Nat)
    · rw [if_pos hcut2] at v3 v4 v5
      rw [if_pos (by rw [v3]; decide)]
      refine .inr ⟨v3, v4, rfl, v5, ?_⟩
      rcases hm01 with rfl | rfl
      · left
        refine parse_same l.sectors _ _ l.texts (by omega) h.parse_eq r1 (by rw [← h.used_eq]; exact r2) (fun hh => ?_)
        rw [← h.used_eq] at hh ⊢
        rw [region_getD _ _ _ _ (by omega), show 128 * l.from_ + 128 * l.used = 128 * (l.from_ + l.used) + 0 by omega, hbm 0 (by omega)]
        exact h00
      · exact .inr (hmore rfl)
    · rw [if_neg hcut2] at v3 v4 v5
      rw [if_neg (by rw [v3]; decide)]
      refine .inl ⟨rfl, ⟨?_, ?_, hmore (hm1 hcut2)⟩, rfl, v4⟩
      · show 128 * (l.from_ + l.sectors) ≤ d2.b.length
        omega
      · show l.used + taken t.length = used (l.texts ++ [t])
        rw [used_append, ← h.used_eq]
        simp [used]
end Go.Proofs.Ytdnjjemdnlegdaa.Slo
namespace Go.Proofs.Ytdnjjemdnlegdaa
set_option linter.unusedVariables false
set_option linter.unusedSimpArgs false
open Go Go.RowKit

def Kept (l : List Nat) (w w' : World) : Prop :=
  w'.os = w.os ∧ w'.tape = w.tape ∧ w'.output = w.output ∧ w.heap.size ≤ w'.heap.size ∧ ∀ k, k < w.heap.size → k ∉ l → w'.heap[k]? = w.heap[k]?
theorem Kept.refl (l : List Nat) (w : World) : Kept l w w := ⟨rfl, rfl, rfl, Nat.le_refl _, fun _ _ _ => rfl⟩
theorem Kept.size {l : List Nat} {w w' : World} (h : Kept l w w') : w.heap.size ≤ w'.heap.size := h.2.2.2.1
theorem Kept.block {l : List Nat} {w w' : World} (h : Kept l w w') (k : Nat) (hk : k < w.heap.size) (hl : k ∉ l) : w'.heap[k]? = w.heap[k]? := h.2.2.2.2 k hk hl
theorem Kept.trans {l : List Nat} {a b c : World} (h : Kept l a b) (h' : Kept l b c) : Kept l a c :=
  ⟨h'.1.trans h.1, h'.2.1.trans h.2.1, h'.2.2.1.trans h.2.2.1, Nat.le_trans h.size h'.size, fun k hk hl => (h'.block k (Nat.lt_of_lt_of_le hk h.size) hl).trans (h.block k hk hl)⟩
theorem Kept.mono {l l' : List Nat} {a b : World} (h : Kept l a b) (hl : ∀ k, k ∈ l → k ∈ l') : Kept l' a b :=
  ⟨h.1, h.2.1, h.2.2.1, h.size, fun k hk hn => h.block k hk (fun hm => hn (hl k hm))⟩
theorem Kept.ofBelow {l : List Nat} {w w' : World} {B : Nat} (h : Below B w w') (hB : w.heap.size ≤ B) : Kept l w w' := ⟨h.os, h.tape, h.output, h.size, fun k hk _ => h.block k (Nat.lt_of_lt_of_le hk hB)⟩
theorem Kept.toBelow {l : List Nat} {w w' : World} {B : Nat} (h : Kept l w w') (hl : ∀ k, k ∈ l → B ≤ k) (hB : B ≤ w.heap.size) : Below B w w' :=
  ⟨h.1, h.2.1, h.2.2.1, h.size, fun k hk => h.block k (by omega) (fun hm => by have := hl k hm; omega)⟩
theorem Kept.setCell {l : List Nat} {w w' : World} (h : Kept l w w') {b o : Nat} {s : Option Nat} (hb : b ∈ l) (v : Value) : Kept l w (w'.setCell ⟨b, o, s⟩ v) :=
  ⟨h.1, h.2.1, h.2.2.1, by simpa [World.setCell] using h.size, fun k hk hl => (heap_setCell_other w' ⟨b, o, s⟩ k v (by intro e; subst e; exact hl hb)).trans (h.block k hk hl)⟩
theorem Kept.setRow {l : List Nat} {w w' : World} (h : Kept l w w') {b : Nat} (hb : b ∈ l) (c : Array Value) : Kept l w (w'.setRow b c) :=
  ⟨h.1, h.2.1, h.2.2.1, by simpa using h.size, fun k hk hl => (setRow_other w' b k c (by intro e; subst e; exact hl hb)).trans (h.block k hk hl)⟩
theorem Kept.alloc {l : List Nat} {w w' : World} (h : Kept l w w') (o : Obj) : Kept l w (w'.alloc o) :=
  h.trans (Kept.ofBelow ((Below.refl _ w').alloc (Nat.le_refl _) o) (Nat.le_refl _))
theorem Kept.drew {l : List Nat} {w w' : World} (h : Kept l w w') : Kept l w w'.drew := h
theorem Kept.drewN {l : List Nat} {w w' : World} (h : Kept l w w') (n : Nat) : Kept l w (w'.drewN n) := h
theorem Kept.newCell {l : List Nat} {w w' : World} (h : Kept l w w') {b o : Nat} {s : Option Nat} (hb : w.heap.size ≤ b) (v : Value) : Kept l w (w'.setCell ⟨b, o, s⟩ v) :=
  ⟨h.1, h.2.1, h.2.2.1, by simpa [World.setCell] using h.size, fun k hk hl => (heap_setCell_other w' ⟨b, o, s⟩ k v (by intro e; subst e; exact absurd hk (by simpa using hb))).trans (h.block k hk hl)⟩
theorem Kept.grown {l : List Nat} {a w w' : World} {row : Option Nat} (h : Kept l a w) (hg : w.grownBy w' row) (hr : ∀ k, row = some k → k ∈ l ∨ a.heap.size ≤ k) : Kept l a w' :=
  ⟨hg.os.trans h.1, hg.tape.trans h.2.1, hg.output.trans h.2.2.1, Nat.le_trans h.size hg.size, fun k hk hl => (hg.block k (Nat.lt_of_lt_of_le hk h.size) (by
    intro e
    rcases hr k e.symm with h1 | h1
    · exact hl h1
    · omega)).trans (h.block k hk hl)⟩
theorem Kept.cell {l : List Nat} {w w' : World} (h : Kept l w w') (b o : Nat) (hb : b < w.heap.size) (hl : b ∉ l) : w'.cell? ⟨b, o, none⟩ = w.cell? ⟨b, o, none⟩ := World.cell?_of_block (a := ⟨b, o, none⟩) (h.block b hb hl)

theorem SlB.kept {l : List Nat} {w w' : World} {g off len cap : Nat} {xs : List (BitVec 8)} (h : SlB w (.slice (some ⟨g, off, none⟩) len cap) xs) (hk : Kept l w w') (hl : g ∉ l) : SlB w' (.slice (some ⟨g, off, none⟩) len cap) xs := by
  rcases h with ⟨h, rfl⟩ | ⟨b', off', cap', h, h1, h2, h3, h4⟩
  · exact .inl ⟨h, rfl⟩
  · simp only [Value.slice.injEq, Option.some.injEq, Addr.mk.injEq] at h
    obtain ⟨⟨rfl, rfl, _⟩, rfl, rfl⟩ := h
    refine .inr ⟨g, off, cap, rfl, h1, h2, Nat.lt_of_lt_of_le h3 hk.size, fun j hj => ?_⟩
    rw [hk.cell g (off + j) h3 hl]
    exact h4 j hj
/-- A slice that lies apart from the blocks of a frame. -/
theorem SlB.keptV {l : List Nat} {w w' : World} {v : Value} {xs : List (BitVec 8)} (h : SlB w v xs) (hk : Kept l w w') (hl : ∀ k, v.ownBlock = some k → k ∉ l) : SlB w' v xs := by
  rcases h with h | ⟨b, off, cap, rfl, h1, h2, h3, h4⟩
  · exact .inl h
  · exact SlB.kept (.inr ⟨b, off, cap, rfl, h1, h2, h3, h4⟩) hk (hl b rfl)

/-- What a call owns, apart from the blocks of a frame. -/
theorem OwnB.keptV2 {E base : Nat} {l : List Nat} {w w' : World} {v : Value} {xs : List (BitVec 8)} (h : OwnB E base w v xs) (hk : Kept l w w') (hl : ∀ k, k ∈ l → k < base) : OwnB E base w' v xs := by
  refine ⟨h.1, ?_⟩
  rcases h.2 with hn | ⟨g, cap, cur, rfl, h1, hb, h2⟩
  · exact .inl hn
  · refine .inr ⟨g, cap, cur, rfl, h1, ?_, h2⟩
    rw [hk.block g (Array.getElem?_eq_some_iff.1 hb).1 (fun hm => by have := hl g hm; omega)]
    exact hb

theorem splice_map {α β : Type} (f : α → β) (L : List α) (off : Nat) (cs : List α) : (splice L off cs).map f = splice (L.map f) off (cs.map f) := by
  simp [splice, List.map_take, List.map_drop]
theorem bytes_splice (L : List (BitVec 8)) (rest : List Value) (off : Nat) (cs : List (BitVec 8)) (h : off + cs.length ≤ L.length) :
    (bcells (splice L off cs) ++ rest).toArray = ((bcells L ++ rest).toArray.toList.take off ++ (bcells cs ++ (bcells L ++ rest).toArray.toList.drop (off + (bcells cs).length))).toArray := by
  have e : bcells (splice L off cs) = (bcells L).take off ++ (bcells cs ++ (bcells L).drop (off + cs.length)) := by
    simp only [bcells, splice_map]
    simp [splice]
  rw [e, bcells_length]
  congr 1
  rw [List.take_append_of_le_length (by rw [bcells_length]; omega), List.drop_append_of_le_length (by rw [bcells_length]; omega)]
  simp

section
variable {P : Program}
/-- copy(d, s): bytes into a block known whole. -/
theorem wpList_copy_b {ops : Array Oper} {rest : List Oper} {o : Oper} {a : Act} {w : World} {Q : Exit → Act → World → Prop} (hgd : o.guard = none) (d s : Operand) (T E : TypeId)
    (ho : o.op = .call { callee := .builtin .copy, args := #[d, s], argTypes := #[T, T] }) (hu : P.underlying T = some (.slice E)) (hsz : (P.info? E).map (·.size) = some 1)
    (g off dLen dCap : Nat) (u : Value) (ys : List (BitVec 8)) (hd : a.eval d = .slice (some ⟨g, off, none⟩) dLen dCap) (hs : a.eval s = u) (hsl : SlB w u ys)
    (L : List (BitVec 8)) (tl : List Value) (t : TypeId) (hg : w.heap[g]? = some (.cells (bcells L ++ tl).toArray t (0, 0))) (hfit : off + dLen ≤ L.length)
    (h : wpList P ops Q rest (a.put o.dst (goInt (Nat.min ys.length dLen))) (w.setRow g (bcells (splice L off (ys.take dLen)) ++ tl).toArray)) : wpList P ops Q (o :: rest) a w := by
  by_cases h0 : Nat.min ys.length dLen = 0
  · have hn : ys.take dLen = [] := by
      apply List.eq_nil_of_length_eq_zero
      rw [List.length_take, Nat.min_comm]
      exact h0
    obtain ⟨sa, cap, hu'⟩ := hsl.len
    refine wpList_copy_nothing hgd d s T T ho E hu hsz (some ⟨g, off, none⟩) sa dLen dCap ys.length cap hd (by rw [hs, hu']) h0 ?_
    rw [hn, show splice L off [] = L by simp [splice], setRow_self _ _ _ _ _ hg, h0] at h
    exact h
  · rcases hsl with ⟨_, rfl⟩ | ⟨b, off', cap, rfl, h1, h2, h3, h4⟩
    · simp at h0
    · have hlen : (bcells (ys.take dLen)).length = Nat.min ys.length dLen := by
        rw [bcells_length, List.length_take]
        exact Nat.min_comm _ _
      refine wpList_copy_own hgd d s T T ho E hu hsz g off dLen dCap ⟨b, off', none⟩ ys.length cap hd hs (bcells L ++ tl).toArray t hg (bcells (ys.take dLen)) hlen ?_ ?_ (bcells_one _) ?_
      · intro j v hj
        have hlt : j < (ys.take dLen).length := by
          rw [← bcells_length]
          exact (List.getElem?_eq_some_iff.1 hj).1
        rw [bcells_get? _ j hlt] at hj
        obtain rfl : byteV ((ys.take dLen).getD j 0) = v := by simpa using hj
        have hadd : (⟨b, off', none⟩ : Addr).add j = ⟨b, off' + j, none⟩ := by unfold Addr.add; split <;> simp_all
        have hj' : j < ys.length := by
          rw [List.length_take] at hlt
          omega
        have hjd : j < dLen := by
          rw [List.length_take] at hlt
          omega
        rw [hadd, h4 j hj']
        simp [hjd]
      · rw [hlen]
        simp only [List.size_toArray, List.length_append, bcells_length]
        have : Nat.min ys.length dLen ≤ dLen := Nat.min_le_right _ _
        omega
      · rw [hlen, ← hlen, ← bytes_splice L tl off _ (by rw [List.length_take]; omega), hlen]
        exact h
end
end Go.Proofs.Ytdnjjemdnlegdaa
namespace Go.Proofs.Ytdnjjemdnlegdaa
set_option linter.unusedVariables false
set_option linter.unusedSimpArgs false
open Go Go.RowKit

/-- A slice of the call's own comes back; nothing old is changed. -/
def RetB (w : World) (xs : List (BitVec 8)) (e : Ending) (w' : World) : Prop :=
  ∃ v', e = .returned v' ∧ OwnB 5 w.heap.size w' v' xs ∧ Below w.heap.size w w'

theorem info_u8 : (Try.prog.info? 5).map (fun i => (i.zero, i.size, i.bytes)) = some (some (.int .u8 0), 1, 1) := by kernel_rfl

theorem clone_any (v : Value) (xs : List (BitVec 8)) (w : World) (h : SlB w v xs) (hl : xs.length ≤ 500000000) :
    Calls Try.prog 48 #[v] w (RetB w xs) := by
  rcases h with ⟨⟨_ | ad, rfl⟩, rfl⟩ | ⟨b, off, cap, rfl, h1, h2, h3, h4⟩
  · have hn := fun w => Lib.run_eql_slice_nil (P := Try.prog) w 22 5 none 0 0 0 0 Try.underlying22
    go_enter Try.func48, Try.ntmps48
    go_wp2
    go_ret
    exact ⟨_, rfl, OwnB.nil _ _ _, Below.refl _ _⟩
  · have hn := fun w => Lib.run_eql_slice_nil (P := Try.prog) w 22 5 (some ad) 0 0 0 0 Try.underlying22
    have hs : SlB w (.slice (some ad) 0 0) [] := .inl ⟨⟨_, rfl⟩, rfl⟩
    go_enter Try.func48, Try.ntmps48
    go_wp2_with (at_builtin; refine wpList_append_b rfl (.tmp 5) (.tmp 6) 22 5 rfl Try.underlying22 info_u8 w.heap.size (.slice (some ⟨w.heap.size, 0, none⟩) 0 0) [] (World.ownsRow_made w #[] 0 (Nat.le_refl _) (by decide) rfl) rfl _ [] (hs.alloc _) rfl (by simp) (by simp) ?_; intro v' w' ho hg hn')
    go_ret
    exact ⟨_, rfl, ho, ((Below.refl _ w).alloc (Nat.le_refl _) _).grown hg (by simp) (by simp [Value.ownBlock])⟩
  · have hn := fun w => Lib.run_eql_slice_nil (P := Try.prog) w 22 5 (some ⟨b, off, none⟩) xs.length cap 0 0 Try.underlying22
    have hs : SlB w (.slice (some ⟨b, off, none⟩) xs.length cap) xs := .inr ⟨b, off, cap, rfl, h1, h2, h3, h4⟩
    clear h4
    go_enter Try.func48, Try.ntmps48
    go_wp2_with (at_builtin; refine wpList_append_b rfl (.tmp 5) (.tmp 6) 22 5 rfl Try.underlying22 info_u8 w.heap.size (.slice (some ⟨w.heap.size, 0, none⟩) 0 0) [] (World.ownsRow_made w #[] 0 (Nat.le_refl _) (by decide) rfl) rfl _ xs (hs.alloc _) rfl (by simp; omega) (by simp) ?_; intro v' w' ho hg hn')
    go_ret
    exact ⟨_, rfl, ho, ((Below.refl _ w).alloc (Nat.le_refl _) _).grown hg (by simp) (by simp [Value.ownBlock])⟩

end Go.Proofs.Ytdnjjemdnlegdaa
namespace Go.Proofs.Ytdnjjemdnlegdaa
set_option linter.unusedVariables false
set_option linter.unusedSimpArgs false
open Go Go.RowKit

def dcells (g : Nat) (d : Dk.D) : List Value :=
  [.slice (some ⟨g, 0, none⟩) d.b.length d.cap, .bool d.off, .int .i64 d.left] ++ (bcells d.mask ++ [.int .i64 d.writes])
theorem dcells_length (g : Nat) (d : Dk.D) (h : d.mask.length = 16) : (dcells g d).length = 20 := by simp [dcells, bcells, h]

/-- The disk d lies in block p, its bytes in block g. -/
structure DiskAt (w : World) (p g : Nat) (d : Dk.D) : Prop where
  row : w.heap[p]? = some (.cells (dcells g d).toArray 46 (0, 0))
  data : w.heap[g]? = some (.cells (bcells d.b ++ d.rest).toArray 5 (0, 0))
  ne : g ≠ p
  ok : Dk.Ok d

theorem DiskAt.ltp {w : World} {p g : Nat} {d : Dk.D} (h : DiskAt w p g d) : p < w.heap.size := (Array.getElem?_eq_some_iff.1 h.row).1
theorem DiskAt.ltg {w : World} {p g : Nat} {d : Dk.D} (h : DiskAt w p g d) : g < w.heap.size := (Array.getElem?_eq_some_iff.1 h.data).1
theorem DiskAt.c {w : World} {p g : Nat} {d : Dk.D} (h : DiskAt w p g d) (j : Nat) (v : Value) (hj : (dcells g d)[j]? = some v) : w.cell? ⟨p, j, none⟩ = some v := by
  rw [cell_of_row w p j _ _ _ h.row]
  simpa using hj
theorem DiskAt.c0 {w : World} {p g : Nat} {d : Dk.D} (h : DiskAt w p g d) : w.cell? ⟨p, 0, none⟩ = some (.slice (some ⟨g, 0, none⟩) d.b.length d.cap) := h.c 0 _ rfl
theorem DiskAt.c1 {w : World} {p g : Nat} {d : Dk.D} (h : DiskAt w p g d) : w.cell? ⟨p, 1, none⟩ = some (.bool d.off) := h.c 1 _ rfl
theorem DiskAt.c2 {w : World} {p g : Nat} {d : Dk.D} (h : DiskAt w p g d) : w.cell? ⟨p, 2, none⟩ = some (.int .i64 d.left) := h.c 2 _ rfl
theorem DiskAt.c3 {w : World} {p g : Nat} {d : Dk.D} (h : DiskAt w p g d) (j : Nat) (hj : j < 16) : w.cell? ⟨p, 3 + j, none⟩ = some (.int .u8 (bv (d.mask.getD j 0))) := h.c _ _ (by
  rw [dcells, List.getElem?_append_right (by simp), show 3 + j - [Value.slice (some ⟨g, 0, none⟩) d.b.length d.cap, .bool d.off, .int .i64 d.left].length = j by simp, List.getElem?_append_left (by rw [bcells_length, h.ok.mask]; exact hj)]
  exact bcells_get? _ j (by rw [h.ok.mask]; exact hj))
theorem DiskAt.c19 {w : World} {p g : Nat} {d : Dk.D} (h : DiskAt w p g d) : w.cell? ⟨p, 19, none⟩ = some (.int .i64 d.writes) := h.c _ _ (by
  rw [dcells, List.getElem?_append_right (by simp), List.getElem?_append_right (by simp [bcells, h.ok.mask])]
  simp [bcells, h.ok.mask])
theorem DiskAt.fr {w : World} {p g : Nat} {d : Dk.D} (h : DiskAt w p g d) (j : Nat) : w.frozen? ⟨p, j, none⟩ = false := frozen_of_row w p j _ _ h.row
theorem DiskAt.caps {w : World} {p g : Nat} {d : Dk.D} (h : DiskAt w p g d) : d.b.length ≤ d.cap ∧ d.cap ≤ 9223372036854775807 := by
  obtain ⟨n, _, h1, h2⟩ := h.ok.size
  have := h.ok.spare
  unfold Dk.D.cap
  omega
theorem DiskAt.byte {w : World} {p g : Nat} {d : Dk.D} (h : DiskAt w p g d) (j : Nat) (hj : j < d.b.length) : w.cell? ⟨g, j, none⟩ = some (.int .u8 (bv (d.b.getD j 0))) := by
  rw [cell_of_row w g j _ _ _ h.data, List.getElem?_toArray, List.getElem?_append_left (by rw [bcells_length]; exact hj)]
  exact bcells_get? _ j hj
theorem DiskAt.sl {w : World} {p g : Nat} {d : Dk.D} (h : DiskAt w p g d) : SlB w (.slice (some ⟨g, 0, none⟩) d.b.length d.cap) d.b :=
  .inr ⟨g, 0, d.cap, rfl, h.caps.1, by have := h.caps.2; unfold maxLen; omega, h.ltg, fun j hj => by rw [Nat.zero_add]; exact h.byte j hj⟩
theorem DiskAt.pos {w : World} {p g : Nat} {d : Dk.D} (h : DiskAt w p g d) : 128 ≤ d.b.length ∧ d.b.length ≤ 2097152 := by obtain ⟨n, _, h1, h2⟩ := h.ok.size; omega

theorem DiskAt.kept {w w' : World} {p g : Nat} {d : Dk.D} {l : List Nat} (h : DiskAt w p g d) (hk : Kept l w w') (hp : p ∉ l) (hg : g ∉ l) : DiskAt w' p g d :=
  ⟨(hk.block p h.ltp hp).trans h.row, (hk.block g h.ltg hg).trans h.data, h.ne, h.ok⟩
theorem DiskAt.below {w w' : World} {p g : Nat} {d : Dk.D} {B : Nat} (h : DiskAt w p g d) (hb : Below B w w') (hB : w.heap.size ≤ B) : DiskAt w' p g d :=
  h.kept (Kept.ofBelow (l := []) hb hB) (by simp) (by simp)
theorem DiskAt.drew {w : World} {p g : Nat} {d : Dk.D} (h : DiskAt w p g d) : DiskAt w.drew p g d := ⟨h.row, h.data, h.ne, h.ok⟩
theorem DiskAt.drewN {w : World} {p g : Nat} {d : Dk.D} (h : DiskAt w p g d) (n : Nat) : DiskAt (w.drewN n) p g d := ⟨h.row, h.data, h.ne, h.ok⟩

/-- A store into one of the disk's cells. -/
theorem DiskAt.setP {w : World} {p g : Nat} {d d' : Dk.D} (h : DiskAt w p g d) (j : Nat) (v : Value) (hd : (dcells g d).set j v = dcells g d') (hb : d'.b = d.b) (hr : d'.rest = d.rest) (ho : Dk.Ok d') : DiskAt (w.setCell ⟨p, j, none⟩ v) p g d' := by
  refine ⟨?_, ?_, h.ne, ho⟩
  · have := heap_setCell_same w p j _ _ v h.row
    rw [← hd]
    simpa using this
  · rw [heap_setCell_other _ _ _ _ (by simpa using h.ne), hb, hr]
    exact h.data
theorem DiskAt.setOff {w : World} {p g : Nat} {d : Dk.D} (h : DiskAt w p g d) (x : Bool) : DiskAt (w.setCell ⟨p, 1, none⟩ (.bool x)) p g { d with off := x } :=
  h.setP 1 _ rfl rfl rfl (h.ok.of_b rfl h.ok.mask h.ok.left0 h.ok.left1 rfl)
theorem DiskAt.setLeft {w : World} {p g : Nat} {d : Dk.D} (h : DiskAt w p g d) (x : Int) (h0 : -1 ≤ x) (h1 : x ≤ 9223372036854775807) : DiskAt (w.setCell ⟨p, 2, none⟩ (.int .i64 x)) p g { d with left := x } :=
  h.setP 2 _ rfl rfl rfl (h.ok.of_b rfl h.ok.mask h0 h1 rfl)
theorem DiskAt.setWrites {w : World} {p g : Nat} {d : Dk.D} (h : DiskAt w p g d) (x : Int) : DiskAt (w.setCell ⟨p, 19, none⟩ (.int .i64 x)) p g { d with writes := x } :=
  h.setP 19 _ (by
    simp only [dcells]
    rw [List.set_append_right _ _ (by simp), List.set_append_right _ _ (by simp [bcells, h.ok.mask])]
    simp [bcells, h.ok.mask, Dk.D.cap]) rfl rfl (h.ok.of_b rfl h.ok.mask h.ok.left0 h.ok.left1 rfl)
/-- The disk's bytes are others. -/
theorem DiskAt.setData {w : World} {p g : Nat} {d : Dk.D} (h : DiskAt w p g d) (b : List (BitVec 8)) (hb : b.length = d.b.length) : DiskAt (w.setRow g (bcells b ++ d.rest).toArray) p g { d with b := b } := by
  refine ⟨?_, setRow_heap w g _ _ _ _ h.data, h.ne, h.ok.of_b hb h.ok.mask h.ok.left0 h.ok.left1 rfl⟩
  rw [setRow_other w g p _ (fun e => h.ne e.symm), h.row]
  simp [dcells, Dk.D.cap, hb]
end Go.Proofs.Ytdnjjemdnlegdaa
namespace Go.Proofs.Ytdnjjemdnlegdaa
set_option linter.unusedVariables false
set_option linter.unusedSimpArgs false
open Go Go.RowKit

theorem dk_is {w : World} {p g : Nat} {d : Dk.D} (h : DiskAt w p g d) : Calls Try.prog 47 #[.pointer (some ⟨p, 0, none⟩)] w fun e w' => e = .returned (.bool true) ∧ w = w' := by
  have c0 := h.c0
  have hp := h.pos
  have hcp := h.caps
  have h0 : 0 < d.b.length := by omega
  generalize d.cap = cap at *
  generalize d.b.length = n at *
  go_enter Try.func47, Try.ntmps47
  go_wp2
  go_ret
  exact ⟨rfl, rfl⟩

theorem dk_has {w : World} {p g : Nat} {d : Dk.D} (h : DiskAt w p g d) (at_ n : Int) (ha : at_ ≤ 9223372036854775807) (hn : n ≤ 9223372036854775807) (hn0 : -9223372036854775808 ≤ n) :
    Calls Try.prog 64 #[.pointer (some ⟨p, 0, none⟩), .int .i64 at_, .int .i64 n] w fun e w' => e = .returned (.bool (Dk.has d at_ n)) ∧ w = w' := by
  have c0 := h.c0
  have hp := h.pos
  have hcp := h.caps
  have HH := Lib.hid (show Dk.has d at_ n = (decide (0 ≤ at_) && decide (0 ≤ n) && decide (at_ ≤ ((d.b.length / 128 : Nat) : Int)) && decide (n ≤ ((d.b.length / 128 : Nat) : Int) - at_)) from rfl)
  generalize Dk.has d at_ n = r at HH ⊢
  generalize d.cap = cap at *
  generalize d.b.length = m at *
  by_cases h1 : 0 ≤ at_
  · by_cases h2 : 0 ≤ n
    · by_cases h3 : at_ ≤ (m : Int) / 128
      · by_cases h4 : n ≤ (m : Int) / 128 - at_
        all_goals
          go_enter Try.func64, Try.ntmps64
          go_wp2
          go_ret
          refine ⟨?_, rfl⟩
          rw [HH.out]
          simp [h1, h2, h3, h4] <;> (intros; omega)
      · go_enter Try.func64, Try.ntmps64
        go_wp2
        go_ret
        refine ⟨?_, rfl⟩
        rw [HH.out]
        simp [h1, h2, h3] <;> (intros; omega)
    · go_enter Try.func64, Try.ntmps64
      go_wp2
      go_ret
      refine ⟨?_, rfl⟩
      rw [HH.out]
      simp [h1, h2] <;> (intros; omega)
  · go_enter Try.func64, Try.ntmps64
    go_wp2
    go_ret
    refine ⟨?_, rfl⟩
    rw [HH.out]
    simp [h1] <;> (intros; omega)

theorem dk_may {w : World} {p g : Nat} {d : Dk.D} (h : DiskAt w p g d) (at_ n : Int) (ha : at_ ≤ 9223372036854775807) (hn : n ≤ 9223372036854775807) (hn0 : -9223372036854775808 ≤ n) :
    Calls Try.prog 49 #[.pointer (some ⟨p, 0, none⟩), .int .i64 at_, .int .i64 n] w fun e w' => e = .returned (.int .i64 (Dk.may d at_ n)) ∧ w = w' := by
  have c1 := h.c1
  have HC := Lib.hid (dk_has h at_ n ha hn hn0)
  have HM := Lib.hid (show Dk.may d at_ n = if Dk.has d at_ n = true then (if d.off = true then 12 else 0) else 2 from rfl)
  generalize Dk.may d at_ n = r at HM ⊢
  generalize Dk.has d at_ n = q at HM HC
  generalize d.off = o at HM c1
  cases q <;> cases o
  all_goals
    go_enter Try.func49, Try.ntmps49
    go_wp2_with (go_at_call 64; refine HC.out.mono ?_; rintro e w' ⟨rfl, rfl⟩)
    go_ret
    refine ⟨?_, rfl⟩
    rw [HM.out]
    rfl

theorem dk_off {w : World} {p g : Nat} {d : Dk.D} (h : DiskAt w p g d) : Calls Try.prog 20 #[.pointer (some ⟨p, 0, none⟩)] w fun e w' => e = .returned (.bool d.off) ∧ w = w' := by
  have c1 := h.c1
  have HC := Lib.hid (dk_is h)
  generalize d.off = o at c1 ⊢
  go_enter Try.func20, Try.ntmps20
  go_wp2_with (go_at_call 47; refine HC.out.mono ?_; rintro e w' ⟨rfl, rfl⟩)
  go_ret
  exact ⟨rfl, rfl⟩

theorem dk_writes {w : World} {p g : Nat} {d : Dk.D} (h : DiskAt w p g d) : Calls Try.prog 23 #[.pointer (some ⟨p, 0, none⟩)] w fun e w' => e = .returned (.int .i64 d.writes) ∧ w = w' := by
  have c1 := h.c19
  have HC := Lib.hid (dk_is h)
  generalize d.writes = o at c1 ⊢
  go_enter Try.func23, Try.ntmps23
  go_wp2_with (go_at_call 47; refine HC.out.mono ?_; rintro e w' ⟨rfl, rfl⟩)
  go_ret
  exact ⟨rfl, rfl⟩

theorem dk_sectors {w : World} {p g : Nat} {d : Dk.D} (h : DiskAt w p g d) : Calls Try.prog 27 #[.pointer (some ⟨p, 0, none⟩)] w fun e w' => e = .returned (.int .i64 ((d.b.length / 128 : Nat) : Int)) ∧ w = w' := by
  have c0 := h.c0
  have hp := h.pos
  have hcp := h.caps
  have HC := Lib.hid (dk_is h)
  generalize d.cap = cap at *
  generalize d.b.length = o at c0 hp hcp ⊢
  go_enter Try.func27, Try.ntmps27
  go_wp2_with (go_at_call 47; refine HC.out.mono ?_; rintro e w' ⟨rfl, rfl⟩)
  go_ret
  exact ⟨ret_int (by omega), rfl⟩

theorem dk_bytes {w : World} {p g : Nat} {d : Dk.D} (h : DiskAt w p g d) : Calls Try.prog 17 #[.pointer (some ⟨p, 0, none⟩)] w (RetB w d.b) := by
  have c0 := h.c0
  have HC := Lib.hid (dk_is h)
  have HB := Lib.hid (clone_any _ _ w h.sl (by have := h.pos; omega))
  generalize d.cap = cap at *
  generalize d.b.length = o at c0 HB
  go_enter Try.func17, Try.ntmps17
  go_wp2_with (first | (go_at_call 47; refine HC.out.mono ?_; rintro e w' ⟨rfl, rfl⟩) | (go_at_call 48; refine HB.out.mono ?_; rintro e w1 ⟨v1, rfl, ho, hb⟩))
  go_ret
  exact ⟨_, rfl, ho, hb⟩

theorem dk_restart {w : World} {p g : Nat} {d : Dk.D} (h : DiskAt w p g d) : Calls Try.prog 25 #[.pointer (some ⟨p, 0, none⟩)] w fun e w' => e = .returned (.int .i64 0) ∧ DiskAt w' p g (Dk.restart d) ∧ Kept [p, g] w w' := by
  have c1 := h.c1
  have c2 := h.c2
  have f1 := h.fr 1
  have f2 := h.fr 2
  have HC := Lib.hid (dk_is h)
  go_enter Try.func25, Try.ntmps25
  go_wp2_with (go_at_call 47; refine HC.out.mono ?_; rintro e w' ⟨rfl, rfl⟩)
  go_ret
  exact ⟨rfl, (h.setOff false).setLeft (-1) (by decide) (by decide), ((Kept.refl _ w).setCell (by simp) _).setCell (by simp) _⟩

theorem dk_read {w : World} {p g : Nat} {d : Dk.D} (h : DiskAt w p g d) (at_ n : Int) (ha : at_ ≤ 9223372036854775807) (hn : n ≤ 9223372036854775807) (hn0 : -9223372036854775808 ≤ n) :
    Calls Try.prog 26 #[.pointer (some ⟨p, 0, none⟩), .int .i64 at_, .int .i64 n] w fun e w' => ∃ v, e = .returned (.tuple #[v, .int .i64 (Dk.read d at_ n).2]) ∧ OwnB 5 w.heap.size w' v (Dk.read d at_ n).1 ∧ Below w.heap.size w w' := by
  have c0 := h.c0
  have hp := h.pos
  have hcp := h.caps
  have HC := Lib.hid (dk_is h)
  have HM := Lib.hid (dk_may h at_ n ha hn hn0)
  by_cases hm : Dk.may d at_ n = 0
  · have h2 := (Dk.may_zero d at_ n).1 hm
    have hr : Dk.read d at_ n = ((d.b.drop (128 * at_.toNat)).take (128 * n.toNat), 0) := by unfold Dk.read; rw [if_neg (by omega)]
    obtain ⟨a, rfl⟩ := Int.eq_ofNat_of_zero_le h2.1.1
    obtain ⟨k, rfl⟩ := Int.eq_ofNat_of_zero_le h2.1.2.1
    rw [hr]
    rw [hm] at HM
    simp only [Int.toNat_natCast]
    have hs := (h.sl.drop (128 * a) (by omega)).take (128 * k) (by omega)
    rw [Nat.zero_add] at hs
    have hyl : ((d.b.drop (128 * a)).take (128 * k)).length = 128 * k := by simp; omega
    generalize (d.b.drop (128 * a)).take (128 * k) = ys at *
    have hak := h2.1.2.2
    have hgl := h.ltg
    clear hr hm h2 h
    generalize d.cap = c at *
    generalize d.b.length = m at *
    have e1 : (a : Int) * 128 ≤ m := by omega
    have e2 : ((a : Int) + k) * 128 ≤ m := by omega
    have e3 : (a : Int) * 128 ≤ ((a : Int) + k) * 128 := by omega
    by_cases hz : c = a * 128
    · obtain rfl : k = 0 := by omega
      obtain rfl : m = a * 128 := by omega
      obtain rfl : ys = [] := List.eq_nil_of_length_eq_zero (by omega)
      have hs' : SlB w (.slice (some ⟨g, 0, none⟩) 0 0) [] := .inr ⟨g, 0, 0, rfl, Nat.le_refl _, by decide, hgl, fun j hj => by simp at hj⟩
      have HB := Lib.hid (clone_any _ _ w hs' (by simp))
      have hz' : c - a * 128 = 0 := by omega
      have hz2 : (a + 0) * 128 - a * 128 = 0 := by omega
      go_enter Try.func26, Try.ntmps26
      go_wp2_with (first | (go_at_call 47; refine HC.out.mono ?_; rintro e w' ⟨rfl, rfl⟩) | (go_at_call 49; refine HM.out.mono ?_; rintro e w' ⟨rfl, rfl⟩) | (go_at_call 48; refine HB.out.mono ?_; rintro e w1 ⟨v1, rfl, ho, hb⟩))
      refine bodyPost_ret (v := .tuple #[v1, .int .i64 0]) (by simp [results, Try.results26, go_sem]) rfl ⟨v1, rfl, ho, hb⟩
    · have hs' : SlB w (.slice (some ⟨g, a * 128, none⟩) ((a + k) * 128 - a * 128) (c - a * 128)) ys := by
        rw [show a * 128 = 128 * a by omega, show (a + k) * 128 - 128 * a = 128 * k by omega]
        exact hs
      have HB := Lib.hid (clone_any _ _ w hs' (by omega))
      have hz' : ¬ c - a * 128 = 0 := by omega
      clear hs hs'
      go_enter Try.func26, Try.ntmps26
      go_wp2_with (first | (go_at_call 47; refine HC.out.mono ?_; rintro e w' ⟨rfl, rfl⟩) | (go_at_call 49; refine HM.out.mono ?_; rintro e w' ⟨rfl, rfl⟩) | (go_at_call 48; refine HB.out.mono ?_; rintro e w1 ⟨v1, rfl, ho, hb⟩))
      refine bodyPost_ret (v := .tuple #[v1, .int .i64 0]) (by simp [results, Try.results26, go_sem]) rfl ⟨v1, rfl, ho, hb⟩
  · have hr : Dk.read d at_ n = ([], Dk.may d at_ n) := by unfold Dk.read; rw [if_pos hm]
    rw [hr]
    generalize Dk.may d at_ n = r at *
    go_enter Try.func26, Try.ntmps26
    go_wp2_with (first | (go_at_call 47; refine HC.out.mono ?_; rintro e w' ⟨rfl, rfl⟩) | (go_at_call 49; refine HM.out.mono ?_; rintro e w' ⟨rfl, rfl⟩))
    refine bodyPost_ret (v := .tuple #[.slice none 0 0, .int .i64 r]) (by simp [results, Try.results26, go_sem]) rfl ⟨_, rfl, OwnB.nil _ _ _, Below.refl _ _⟩

set_option maxRecDepth 100000 in
/-- A new disk. -/
theorem dk_new (n : Nat) (h0 : 1 ≤ n) (h : n ≤ 16384) (w : World) : Calls Try.prog 14 #[.int .i64 n] w fun e w' =>
    ∃ p g, e = .returned (.tuple #[.pointer (some ⟨p, 0, none⟩), .int .i64 0]) ∧ DiskAt w' p g (Dk.fresh n) ∧ w.heap.size ≤ p ∧ w.heap.size ≤ g ∧ Below w.heap.size w w' := by
  obtain ⟨i, hi, hz, hsz, hby⟩ := info_parts info_u8
  have hm := run_makeSlice (P := Try.prog) w 22 5 i (.int .u8 0) Try.underlying22 hi hz .i64 .i64 ((n : Int) * 128) ((n : Int) * 128) (by omega) (by omega) (by rw [hsz]; omega) (by rw [hby]; omega) (by omega)
  rw [hsz, show ((n : Int) * 128).toNat = n * 128 by omega, Nat.mul_one] at hm
  have hc : madeCells (Value.int .u8 0).cells (n * 128) = bytes (List.replicate (n * 128) 0) := by
    have e0 : (Value.int .u8 0).cells = #[.int .u8 0] := rfl
    apply Array.ext_getElem?
    intro j
    by_cases hj : j < n * 128
    · rw [bytes_get? _ j (by simpa using hj)]
      simp [madeCells, e0, hj, bv, Nat.mod_one]
    · rw [Array.getElem?_eq_none (by rw [size_madeCells]; omega), Array.getElem?_eq_none (by rw [bytes_size]; simp; omega)]
  rw [hc] at hm
  obtain ⟨Z, hZ⟩ : ∃ Z, Z = bytes (List.replicate (n * 128) 0) := ⟨_, rfl⟩
  rw [← hZ] at hm
  have HZ := Lib.hid hZ
  clear hi hz hsz hby hc hZ
  have h1 : (1 : Int) ≤ n := by omega
  have h2 : (n : Int) ≤ 16384 := by omega
  have HM := Lib.hid hm
  clear hm
  go_enter Try.func14, Try.ntmps14
  go_upto_region 3 with fail
  have hm := HM.out
  clear h0 h HM
  go_wp2
  refine bodyPost_ret (v := .tuple #[.pointer (some ⟨w.heap.size + 1, 0, none⟩), .int .i64 0]) (by simp [results, Try.results14, go_sem]) rfl ⟨w.heap.size + 1, w.heap.size, rfl, ⟨?_, ?_, by omega, Dk.Ok.fresh n (by omega) (by omega)⟩, by omega, Nat.le_refl _, ?_⟩
  · rw [heapA_new _ _ _ (by simp)]
    simp [dcells, Dk.fresh, Dk.D.cap, bcells, byteV, bv, List.replicate]
  · rw [heapA_old _ _ _ (by simp), heapA_new _ _ _ rfl, HZ.out]
    simp [Dk.fresh, ← bytes_toList]
  · exact ((Below.refl _ w).alloc (Nat.le_refl _) _).alloc (by simp) _
end Go.Proofs.Ytdnjjemdnlegdaa
namespace Go.Proofs.Ytdnjjemdnlegdaa
set_option linter.unusedVariables false
set_option linter.unusedSimpArgs false
open Go Go.RowKit

theorem DiskAt.setByte {w : World} {p g : Nat} {d : Dk.D} (h : DiskAt w p g d) (j : Nat) (hj : j < d.b.length) (x : BitVec 8) : DiskAt (w.setCell ⟨g, j, none⟩ (.int .u8 (bv x))) p g { d with b := d.b.set j x } := by
  refine ⟨?_, ?_, h.ne, h.ok.of_b (by simp) h.ok.mask h.ok.left0 h.ok.left1 rfl⟩
  · rw [heap_setCell_other _ _ _ _ (by simpa using Ne.symm h.ne), h.row]
    simp [dcells, Dk.D.cap]
  · have := heap_setCell_same w g j _ _ (.int .u8 (bv x)) h.data
    rw [List.setIfInBounds_toArray, List.set_append_left _ _ (by rw [bcells_length]; exact hj)] at this
    simpa [bcells, List.map_set, byteV] using this

/-- After i bytes of a torn sector. -/
def tearTo (mask ys : List (BitVec 8)) (o : Nat) (b : List (BitVec 8)) : Nat → List (BitVec 8)
  | 0 => b
  | i + 1 => if Dk.bit mask i = true then (tearTo mask ys o b i).set (o + i) (ys.getD i 0) else tearTo mask ys o b i
theorem tearTo_length (mask ys : List (BitVec 8)) (o : Nat) (b : List (BitVec 8)) (i : Nat) : (tearTo mask ys o b i).length = b.length := by
  induction i with
  | zero => rfl
  | succ i ih => unfold tearTo; split <;> simp [ih]
theorem tearTo_get (mask ys : List (BitVec 8)) (o : Nat) (b : List (BitVec 8)) (i j : Nat) (hj : j < b.length) (ho : o + i ≤ b.length) :
    (tearTo mask ys o b i)[j]? = some (if o ≤ j ∧ j < o + i ∧ Dk.bit mask (j - o) = true then ys.getD (j - o) 0 else b.getD j 0) := by
  induction i with
  | zero => simp [tearTo, hj]; omega
  | succ i ih =>
    have ih := ih (by omega)
    unfold tearTo
    by_cases hb : Dk.bit mask i = true
    · rw [if_pos hb, List.getElem?_set]
      by_cases he : o + i = j
      · subst he
        rw [if_pos rfl, if_pos (by rw [tearTo_length]; exact hj), if_pos (by rw [Nat.add_sub_cancel_left]; exact ⟨by omega, by omega, hb⟩), Nat.add_sub_cancel_left]
      · rw [if_neg he, ih]
        congr 1
        by_cases h1 : o ≤ j ∧ j < o + i ∧ Dk.bit mask (j - o) = true
        · rw [if_pos h1, if_pos ⟨h1.1, by omega, h1.2.2⟩]
        · rw [if_neg h1, if_neg (fun h => h1 ⟨h.1, by omega, h.2.2⟩)]
    · rw [if_neg hb, ih]
      congr 1
      by_cases h1 : o ≤ j ∧ j < o + i ∧ Dk.bit mask (j - o) = true
      · rw [if_pos h1, if_pos ⟨h1.1, by omega, h1.2.2⟩]
      · rw [if_neg h1, if_neg]
        rintro ⟨h2, h3, h4⟩
        by_cases he : j = o + i
        · subst he
          rw [Nat.add_sub_cancel_left] at h4
          exact hb h4
        · exact h1 ⟨h2, by omega, h4⟩
theorem tearTo_all (mask ys : List (BitVec 8)) (k : Nat) (b : List (BitVec 8)) (hk : 128 * k + 128 ≤ b.length) : tearTo mask ys (128 * k) b 128 = splice b (128 * k) (Dk.tornL mask (Dk.sect b k) ys) := by
  apply List.ext_getElem?
  intro j
  have hl : (splice b (128 * k) (Dk.tornL mask (Dk.sect b k) ys)).length = b.length := length_splice _ _ _ (by rw [Dk.tornL_length]; omega)
  by_cases hj : j < b.length
  · rw [tearTo_get mask ys (128 * k) b 128 j hj hk]
    unfold splice
    by_cases h1 : j < 128 * k
    · rw [if_neg (by omega), List.getElem?_append_left (by simp; omega), List.getElem?_take, if_pos h1]
      simp [hj]
    · rw [List.getElem?_append_right (by simp; omega), List.length_take, Nat.min_eq_left (by omega)]
      by_cases h2 : j < 128 * k + 128
      · rw [List.getElem?_append_left (by rw [Dk.tornL_length]; omega)]
        simp only [Dk.tornL, List.getElem?_map, List.getElem?_range (show j - 128 * k < 128 by omega), Option.map_some]
        congr 1
        by_cases hb : Dk.bit mask (j - 128 * k) = true
        · rw [if_pos ⟨by omega, h2, hb⟩, if_pos hb]
        · rw [if_neg (fun h => hb h.2.2), if_neg hb]
          simp [Dk.sect, List.getD, List.getElem?_take, List.getElem?_drop, show j - 128 * k < 128 by omega, show 128 * k + (j - 128 * k) = j by omega]
      · rw [if_neg (by omega), List.getElem?_append_right (by rw [Dk.tornL_length]; omega), Dk.tornL_length, List.getElem?_drop, show 128 * k + 128 + (j - 128 * k - 128) = j by omega]
        simp [hj]
  · rw [List.getElem?_eq_none (by rw [tearTo_length]; omega), List.getElem?_eq_none (by omega)]

theorem u8_shr (a : BitVec 8) (n : Nat) : bv a / 2 ^ n = bv (a >>> n) := by
  unfold bv
  rw [BitVec.toNat_ushiftRight, Nat.shiftRight_eq_div_pow]
  simp
theorem u8_one (a : BitVec 8) : bits .and .u8 (bv a) 1 = bv (a &&& 1) := u8_and' a 1

attribute [local go_sem] u8_shr u8_one

set_option maxRecDepth 100000 in
set_option maxHeartbeats 1000000 in
theorem dk_torn {w : World} {p g : Nat} {d : Dk.D} (h : DiskAt w p g d) (k cap : Nat) (u : Value) (ys : List (BitVec 8)) (hk : 128 * k + 128 ≤ d.b.length) (hcap : 128 ≤ cap) (hs : SlB w u ys) (hy : ys.length = 128) (hu : u.ownBlock ≠ some g) (hup : u.ownBlock ≠ some p) :
    Calls Try.prog 50 #[.pointer (some ⟨p, 0, none⟩), .slice (some ⟨g, 128 * k, none⟩) 128 cap, u] w fun e w' =>
      e = .returned (.tuple #[]) ∧ DiskAt w' p g { d with b := splice d.b (128 * k) (Dk.tornL d.mask (Dk.sect d.b k) ys), off := true, left := -1 } ∧ Kept [p, g] w w' := by
  obtain ⟨b, off, cu, rfl, hcu, hbl⟩ := hs.open_ 128 hy (by decide)
  have hbg : b ≠ g := by simpa [Value.ownBlock] using hu
  have hbp : b ≠ p := by simpa [Value.ownBlock] using hup
  have HD := Lib.hid (tearTo_all d.mask ys k d.b hk)
  clear hu hup
  go_enter Try.func50, Try.ntmps50
  go_wp2
  go_loopw [6, 7] (fun _ i wr => ∃ m : Nat, m ≤ 128 ∧ i = .int .i64 m ∧ DiskAt wr p g { d with b := tearTo d.mask ys (128 * k) d.b m } ∧ Kept [p, g] w wr) (fun _ i _ => 128 - (intOf i).toNat)
  case atStart => exact ⟨0, by omega, rfl, ⟨h.row, h.data, h.ne, h.ok⟩, Kept.refl _ _⟩
  case round =>
    obtain ⟨m, hm, rfl, hD, hK⟩ := hrel
    by_cases hlt : m < 128
    · have c1 := (hs.kept hK (by simp; omega)).cell m (by omega)
      unfold byteV at c1
      have c2 := hD.byte (128 * k + m) (by show _ < (tearTo d.mask ys (128 * k) d.b m).length; rw [tearTo_length]; omega)
      have f2 : wr.frozen? ⟨g, 128 * k + m, none⟩ = false := frozen_of_row wr g (128 * k + m) _ _ hD.data
      obtain ⟨q, r, hq, hr, hql, hrl⟩ : ∃ q r : Nat, m / 8 = q ∧ m % 8 = r ∧ q < 16 ∧ r < 8 := ⟨_, _, rfl, rfl, by omega, by omega⟩
      have c0 := hD.c3 q hql
      have e1 : (m : Int) % 8 = (r : Int) := by omega
      have e2 : (m : Int) / 8 = (q : Int) := by omega
      have HB := Lib.hid (show Dk.bit d.mask m = (((d.mask.getD q 0) >>> r) &&& 1 == 1) by rw [← hq, ← hr]; rfl)
      have HT := Lib.hid (show tearTo d.mask ys (128 * k) d.b (m + 1) = if Dk.bit d.mask m = true then (tearTo d.mask ys (128 * k) d.b m).set (128 * k + m) (ys.getD m 0) else tearTo d.mask ys (128 * k) d.b m from rfl)
      have HDD := Lib.hid hD
      have HK := Lib.hid hK
      dsimp only at c0 c2
      generalize (tearTo d.mask ys (128 * k) d.b m).getD (128 * k + m) 0 = z at c2
      generalize d.mask.getD q 0 = mq at c0 HB
      generalize ys.getD m 0 = y at c1 HT
      clear hq hr hD hK
      by_cases hbit : Dk.bit d.mask m = true
      · have hb1 : bv (mq >>> r &&& 1#8) = 1 := by
          rw [HB.out] at hbit
          have e : mq >>> r &&& 1#8 = 1#8 := beq_iff_eq.1 hbit
          rw [e]
          rfl
        go_wp2
        refine ⟨⟨m + 1, by omega, by go_num, ?_, HK.out.setCell (by simp) _⟩, by simp [intOf]; omega⟩
        have := HDD.out.setByte (128 * k + m) (by show _ < (tearTo d.mask ys (128 * k) d.b m).length; rw [tearTo_length]; omega) y
        rw [HT.out, if_pos hbit]
        exact this
      · have hb1 : ¬ bv (mq >>> r &&& 1#8) = 1 := by
          rw [HB.out] at hbit
          intro hc
          apply hbit
          rw [beq_iff_eq]
          exact bv_inj hc
        go_wp2
        refine ⟨⟨m + 1, by omega, by go_num, ?_, HK.out⟩, by simp [intOf]; omega⟩
        rw [HT.out, if_neg hbit]
        exact HDD.out
    · obtain rfl : m = 128 := by omega
      rw [HD.out] at hD
      have c1 := hD.c1
      have c2 := hD.c2
      have f1 := hD.fr 1
      have f2 := hD.fr 2
      go_wp2
      go_end0
      exact ⟨rfl, (hD.setOff true).setLeft (-1) (by decide) (by decide), (hK.setCell (by simp) _).setCell (by simp) _⟩
end Go.Proofs.Ytdnjjemdnlegdaa
namespace Go.Proofs.Ytdnjjemdnlegdaa
set_option linter.unusedVariables false
set_option linter.unusedSimpArgs false
open Go Go.RowKit

/-- A slice that lies apart from a block (or has no bytes). -/
def Apart (v : Value) (xs : List (BitVec 8)) (l : List Nat) : Prop := xs ≠ [] → ∀ k, v.ownBlock = some k → k ∉ l

set_option maxRecDepth 100000 in
set_option maxHeartbeats 1000000 in
theorem dk_put {w : World} {p g : Nat} {d : Dk.D} (h : DiskAt w p g d) (at_ : Int) (v : Value) (xs : List (BitVec 8)) (hs : SlB w v xs) (hl : xs.length ≤ 1000000000) (ha0 : -9223372036854775808 ≤ at_) (ha1 : at_ ≤ 9223372036854775807) :
    Calls Try.prog 16 #[.pointer (some ⟨p, 0, none⟩), .int .i64 at_, v] w fun e w' => e = .returned (.int .i64 (Dk.putAt d at_ xs).2) ∧ DiskAt w' p g (Dk.putAt d at_ xs).1 ∧ Kept [p, g] w w' := by
  have c0 := h.c0
  have hp := h.pos
  have hcp := h.caps
  have HC := Lib.hid (dk_is h)
  obtain ⟨a, cap, hv⟩ := hs.len
  have HP := Lib.hid (show Dk.putAt d at_ xs = if at_ < 0 ∨ (d.b.length : Int) < at_ ∨ (d.b.length : Int) - at_ < xs.length then (d, 2) else ({ d with b := splice d.b at_.toNat xs }, 0) from rfl)
  generalize hr : Dk.putAt d at_ xs = r at HP ⊢
  clear hr
  by_cases hc : at_ < 0 ∨ (d.b.length : Int) < at_ ∨ (d.b.length : Int) - at_ < xs.length
  · obtain rfl : r = (d, 2) := by rw [HP.out, if_pos hc]
    clear HP
    subst hv
    clear hs
    have HD := Lib.hid h
    generalize d.cap = c at *
    generalize d.b.length = m at *
    generalize xs.length = k at *
    by_cases h1 : at_ < 0
    · clear hc
      go_enter Try.func16, Try.ntmps16
      go_wp2_with (go_at_call 47; refine HC.out.mono ?_; rintro e w' ⟨rfl, rfl⟩)
      go_ret
      exact ⟨rfl, HD.out, Kept.refl _ _⟩
    · by_cases h2 : (m : Int) < at_
      · clear hc
        go_enter Try.func16, Try.ntmps16
        go_wp2_with (go_at_call 47; refine HC.out.mono ?_; rintro e w' ⟨rfl, rfl⟩)
        go_ret
        exact ⟨rfl, HD.out, Kept.refl _ _⟩
      · have h3 : (m : Int) - at_ < k := by omega
        clear hc
        go_enter Try.func16, Try.ntmps16
        go_wp2_with (go_at_call 47; refine HC.out.mono ?_; rintro e w' ⟨rfl, rfl⟩)
        go_ret
        exact ⟨rfl, HD.out, Kept.refl _ _⟩
  · obtain rfl : r = ({ d with b := splice d.b at_.toNat xs }, 0) := by rw [HP.out, if_neg hc]
    clear HP
    obtain ⟨n, rfl⟩ := Int.eq_ofNat_of_zero_le (show 0 ≤ at_ by omega)
    have h1 : (n : Int) ≤ d.b.length := by omega
    have h2 : (xs.length : Int) ≤ (d.b.length : Int) - n := by omega
    clear hc
    have hsp : splice d.b n (xs.take (d.b.length - n)) = splice d.b n xs := by rw [List.take_of_length_le (by omega)]
    have HF := Lib.hid (h.setData (splice d.b n xs) (Dk.splice_length _ _ _ (by omega)))
    have hg := h.data
    by_cases he : d.cap = n
    · have hx : xs = [] := List.eq_nil_of_length_eq_zero (by omega)
      have HSP := Lib.hid (show ∀ m, splice d.b 0 (xs.take m) = splice d.b n xs by intro m; subst hx; simp [splice])
      have HG := Lib.hid hg
      have HV := Lib.hid hs
      have hk : xs.length = 0 := by omega
      have hb : d.b.length = n := by omega
      have HM := Lib.hid (show 0 + 0 ≤ d.b.length by omega)
      subst hv
      rw [hk] at HV ⊢
      rw [he, hb] at c0
      clear hs hsp hg hx hk h h1 h2 hl ha0 ha1 hb he hcp hp
      generalize d.b = L at *
      go_enter Try.func16, Try.ntmps16
      go_wp2_with (first | (go_at_call 47; refine HC.out.mono ?_; rintro e w' ⟨rfl, rfl⟩) | (refine wpList_copy_b rfl (.tmp 40) (.tmp 41) 22 5 rfl Try.underlying22 (by kernel_rfl) g 0 0 0 (.slice a 0 cap) xs rfl rfl HV.out L d.rest 5 HG.out HM.out ?_; rw [HSP.out]))
      go_ret
      exact ⟨rfl, HF.out, (Kept.refl _ _).setRow (by simp) _⟩
    · have HG := Lib.hid hg
      have HV := Lib.hid hs
      have HSP := Lib.hid hsp
      subst hv
      clear hs hsp hg h ha0 ha1
      generalize d.b = L at *
      generalize d.cap = c at *
      have hlt : (n : Int) < c := by omega
      obtain ⟨m, hm⟩ : ∃ m, m = L.length := ⟨_, rfl⟩
      have HM := Lib.hid (show n + (m - n) ≤ L.length by omega)
      rw [← hm] at c0 hp h1 h2 HSP hcp
      clear hm
      generalize xs.length = k at *
      go_enter Try.func16, Try.ntmps16
      go_wp2_with (first | (go_at_call 47; refine HC.out.mono ?_; rintro e w' ⟨rfl, rfl⟩) | (refine wpList_copy_b rfl (.tmp 40) (.tmp 41) 22 5 rfl Try.underlying22 (by kernel_rfl) g n (m - n) (c - n) (.slice a k cap) xs rfl rfl HV.out L d.rest 5 HG.out HM.out ?_; rw [HSP.out]))
      go_ret
      exact ⟨rfl, HF.out, (Kept.refl _ _).setRow (by simp) _⟩
end Go.Proofs.Ytdnjjemdnlegdaa
namespace Go.Proofs.Ytdnjjemdnlegdaa
set_option linter.unusedVariables false
set_option linter.unusedSimpArgs false
open Go Go.RowKit

/-- Cells stored one behind the other into a block known whole. -/
theorem heap_setCells (b : Nat) (t : TypeId) : ∀ (vs : List Value) (o : Nat) (pre mid post : List Value) (w : World), mid.length = vs.length → pre.length = o → w.heap[b]? = some (.cells (pre ++ (mid ++ post)).toArray t (0, 0)) →
    (w.setCells b o vs).heap[b]? = some (.cells (pre ++ (vs ++ post)).toArray t (0, 0))
  | [], o, pre, mid, post, w, hm, ho, h => by
    obtain rfl : mid = [] := List.eq_nil_of_length_eq_zero (by simpa using hm)
    exact h
  | v :: vs, o, pre, [], post, w, hm, ho, h => by simp at hm
  | v :: vs, o, pre, m :: mid, post, w, hm, ho, h => by
    have h1 := heap_setCell_same w b o _ _ v h
    have e : (pre ++ (m :: mid ++ post)).toArray.setIfInBounds o v = ((pre ++ [v]) ++ (mid ++ post)).toArray := by
      subst ho
      simp
    rw [e] at h1
    have := heap_setCells b t vs (o + 1) (pre ++ [v]) mid post _ (by simpa using hm) (by simp [ho]) h1
    simpa [World.setCells] using this
theorem Kept.setCells {l : List Nat} {w : World} {b : Nat} (hb : b ∈ l) : ∀ (vs : List Value) (o : Nat) (w' : World), Kept l w w' → Kept l w (w'.setCells b o vs)
  | [], _, _, h => h
  | v :: vs, o, w', h => Kept.setCells hb vs (o + 1) _ (h.setCell hb v)
theorem setCells_other (b k : Nat) (hk : k ≠ b) : ∀ (vs : List Value) (o : Nat) (w : World), (w.setCells b o vs).heap[k]? = w.heap[k]?
  | [], _, _ => rfl
  | v :: vs, o, w => (setCells_other b k hk vs (o + 1) _).trans (heap_setCell_other w ⟨b, o, none⟩ k v hk)
theorem DiskAt.setMask {w : World} {p g : Nat} {d : Dk.D} (h : DiskAt w p g d) (m : List (BitVec 8)) (hm : m.length = 16) : DiskAt (w.setCells p 3 (bcells m)) p g { d with mask := m } := by
  refine ⟨?_, ?_, h.ne, h.ok.of_b rfl hm h.ok.left0 h.ok.left1 rfl⟩
  · have h1 := heap_setCells p 46 (bcells m) 3 [.slice (some ⟨g, 0, none⟩) d.b.length d.cap, .bool d.off, .int .i64 d.left] (bcells d.mask) [.int .i64 d.writes] w
      (by rw [bcells_length, bcells_length, hm, h.ok.mask]) rfl h.row
    exact h1
  · rw [setCells_other _ _ h.ne]
    exact h.data

/-- What a cell holds. -/
def cellOf (w : World) (a : Addr) : Value := (w.cell? a).getD undef
theorem cellOf_some {w : World} {a : Addr} (h : (w.cell? a).isSome = true) : w.cell? a = some (cellOf w a) := by
  obtain ⟨v, hv⟩ := Option.isSome_iff_exists.1 h
  unfold cellOf
  rw [hv]
  rfl
theorem frozen_setCells (b : Nat) (a : Addr) : ∀ (vs : List Value) (o : Nat) (w : World), (w.setCells b o vs).frozen? a = w.frozen? a
  | [], _, _ => rfl
  | v :: vs, o, w => (frozen_setCells b a vs (o + 1) _).trans (World.frozen?_setCell _ _ _ _)
theorem cut_keep0 {W : World} {p n : Nat} {bm : List Value} (h1 : W.rangeAt n 0 bm) (h2 : W.there p 3 16) (h3 : W.cell? ⟨p, 2, none⟩ = some (cellOf W ⟨p, 2, none⟩)) (h4 : W.frozen? ⟨p, 2, none⟩ = false) :
    W.drew.rangeAt n 0 bm ∧ W.drew.there p 3 16 ∧ W.drew.cell? ⟨p, 2, none⟩ = some (cellOf W.drew ⟨p, 2, none⟩) ∧ W.drew.frozen? ⟨p, 2, none⟩ = false := ⟨h1, h2, h3, h4⟩
theorem cut_keep1 {W : World} {p n : Nat} {bm : List Value} {v : Value} (hne : ¬ n = p) (h : W.drew.rangeAt n 0 bm ∧ W.drew.there p 3 16 ∧ W.drew.cell? ⟨p, 2, none⟩ = some (cellOf W.drew ⟨p, 2, none⟩) ∧ W.drew.frozen? ⟨p, 2, none⟩ = false) :
    (W.setCell ⟨p, 2, none⟩ v).drew.rangeAt n 0 bm ∧ (W.setCell ⟨p, 2, none⟩ v).drew.there p 3 16 ∧ (W.setCell ⟨p, 2, none⟩ v).drew.cell? ⟨p, 2, none⟩ = some (cellOf (W.setCell ⟨p, 2, none⟩ v).drew ⟨p, 2, none⟩) ∧ (W.setCell ⟨p, 2, none⟩ v).drew.frozen? ⟨p, 2, none⟩ = false := by
  obtain ⟨h1, h2, h3, h4⟩ := h
  have h1 : W.rangeAt n 0 bm := h1
  have h2 : W.there p 3 16 := h2
  have h3 : W.cell? ⟨p, 2, none⟩ = some (cellOf W ⟨p, 2, none⟩) := h3
  have h4 : W.frozen? ⟨p, 2, none⟩ = false := h4
  have g : (W.setCell ⟨p, 2, none⟩ v).rangeAt n 0 bm ∧ (W.setCell ⟨p, 2, none⟩ v).there p 3 16 ∧ (W.setCell ⟨p, 2, none⟩ v).cell? ⟨p, 2, none⟩ = some (cellOf (W.setCell ⟨p, 2, none⟩ v) ⟨p, 2, none⟩) ∧ (W.setCell ⟨p, 2, none⟩ v).frozen? ⟨p, 2, none⟩ = false := ⟨World.rangeAt_setCells_apart h1 p 2 [v] (.inl hne), World.there_setCells h2 p 2 [v], cellOf_some (World.isSome_setCells p [v] 2 W ⟨p, 2, none⟩ (by rw [h3]; rfl)), by rw [World.frozen?_setCell]; exact h4⟩
  exact g
theorem cut_keep2 {W : World} {p n : Nat} {bm bv : List Value} (hne : ¬ n = p) (h : W.drew.rangeAt n 0 bm ∧ W.drew.there p 3 16 ∧ W.drew.cell? ⟨p, 2, none⟩ = some (cellOf W.drew ⟨p, 2, none⟩) ∧ W.drew.frozen? ⟨p, 2, none⟩ = false) :
    (W.setCells p 3 bv).drew.rangeAt n 0 bm ∧ (W.setCells p 3 bv).drew.there p 3 16 ∧ (W.setCells p 3 bv).drew.cell? ⟨p, 2, none⟩ = some (cellOf (W.setCells p 3 bv).drew ⟨p, 2, none⟩) ∧ (W.setCells p 3 bv).drew.frozen? ⟨p, 2, none⟩ = false := by
  obtain ⟨h1, h2, h3, h4⟩ := h
  have h1 : W.rangeAt n 0 bm := h1
  have h2 : W.there p 3 16 := h2
  have h3 : W.cell? ⟨p, 2, none⟩ = some (cellOf W ⟨p, 2, none⟩) := h3
  have h4 : W.frozen? ⟨p, 2, none⟩ = false := h4
  have g : (W.setCells p 3 bv).rangeAt n 0 bm ∧ (W.setCells p 3 bv).there p 3 16 ∧ (W.setCells p 3 bv).cell? ⟨p, 2, none⟩ = some (cellOf (W.setCells p 3 bv) ⟨p, 2, none⟩) ∧ (W.setCells p 3 bv).frozen? ⟨p, 2, none⟩ = false := ⟨World.rangeAt_setCells_apart h1 p 3 bv (.inl hne), World.there_setCells h2 p 3 bv, cellOf_some (World.isSome_setCells p bv 3 W ⟨p, 2, none⟩ (by rw [h3]; rfl)), by rw [frozen_setCells]; exact h4⟩
  exact g

set_option maxRecDepth 100000 in
set_option maxHeartbeats 1000000 in
theorem dk_cut {w : World} {p g : Nat} {d : Dk.D} (h : DiskAt w p g d) (whole : Int) (mask : List (BitVec 8)) (hm : mask.length = 16) (hw : whole ≤ 9223372036854775807) :
    Calls Try.prog 18 #[.pointer (some ⟨p, 0, none⟩), .int .i64 whole, .agg (bytes mask)] w fun e w' => e = .returned (.int .i64 (Dk.cut d whole mask).2) ∧ DiskAt w' p g (Dk.cut d whole mask).1 ∧ Kept [p, g] w w' := by
  have HC := Lib.hid (fun (w : World) (h : DiskAt w p g d) => dk_is h)
  have HP := Lib.hid (show Dk.cut d whole mask = if whole < 0 then (d, 2) else if d.off = true then (d, 12) else ({ d with left := whole, mask := mask }, 0) from rfl)
  have HB := Lib.hid h
  have HL := Lib.hid hm
  generalize hr : Dk.cut d whole mask = r at HP ⊢
  clear hr
  have hal : ∀ o, DiskAt (w.alloc o) p g d := fun o => h.below ((Below.refl _ w).alloc (Nat.le_refl _) o) (Nat.le_refl _)
  have hka : ∀ o, Kept [p, g] w (w.alloc o) := fun o => (Kept.refl _ _).alloc o
  have HA := Lib.hid hal
  have HK := Lib.hid hka
  have hpl := h.ltp
  clear hka
  by_cases h0 : whole < 0
  · obtain rfl : r = (d, 2) := by rw [HP.out, if_pos h0]
    clear HP hal h hm hpl
    generalize bytes mask = mb
    go_enter Try.func18, Try.ntmps18
    go_wp2_with (go_at_call 47; refine (HC.out _ (HA.out _)).mono ?_; rintro e w' ⟨rfl, rfl⟩)
    go_ret
    exact ⟨rfl, HA.out _, HK.out _⟩
  · have c1 := fun o => (hal o).c1
    have c2 := fun o => (hal o).c2
    have f2 := fun o => (hal o).fr 2
    by_cases hoff : d.off = true
    · obtain rfl : r = (d, 12) := by rw [HP.out, if_neg h0, if_pos hoff]
      rw [hoff] at c1
      clear HP hal h hm hpl c2 f2 hoff
      generalize bytes mask = mb at c1 ⊢
      go_enter Try.func18, Try.ntmps18
      go_wp2_with (go_at_call 47; refine (HC.out _ (HA.out _)).mono ?_; rintro e w' ⟨rfl, rfl⟩)
      go_ret
      exact ⟨rfl, HA.out _, HK.out _⟩
    · obtain rfl : r = ({ d with left := whole, mask := mask }, 0) := by rw [HP.out, if_neg h0, if_neg hoff]
      rw [Bool.not_eq_true] at hoff
      rw [hoff] at c1
      clear HP h
      go_enter Try.func18, Try.ntmps18
      go_wp2_with (go_at_call 47; refine (HC.out _ (HA.out _)).mono ?_; rintro e w' ⟨rfl, rfl⟩)
      obtain ⟨W, hW⟩ : ∃ W, w.alloc (Obj.cells (bytes mask) 23) = W := ⟨_, rfl⟩
      have hD := HA.out (Obj.cells (bytes mask) 23)
      have hKW := HK.out (Obj.cells (bytes mask) 23)
      have hnew := heapA_new w (Obj.cells (bytes mask) 23) _ rfl
      rw [hW] at hD hKW hnew ⊢
      have hra : W.rangeAt w.heap.size 0 (bcells mask) := by
        have := World.rangeAt_of_block hnew 0 16
        rw [show ((bytes mask).extract 0 (0 + 16)).toList = bcells mask by rw [← bytes_toList]; congr 1; rw [Nat.zero_add]; exact Array.extract_eq_self_of_le (by rw [bytes_size, hm]; omega)] at this
        exact this
      have hth : W.there p 3 16 := fun j hj => ⟨by rw [hD.c3 j hj]; rfl, hD.fr _⟩
      have c2 := cellOf_some (show (W.cell? ⟨p, 2, none⟩).isSome = true by rw [hD.c2]; rfl)
      have f2 := hD.fr 2
      have HD := Lib.hid hD
      have HKW := Lib.hid hKW
      have hu := Try.underlying23
      have hbl : (bcells mask).length = 16 := by rw [bcells_length, hm]
      have hi : (Try.prog.info? 23).map (·.size) = some (bcells mask).length := by rw [hbl]; kernel_rfl
      have h1 := bcells_one mask
      have hne : ¬ w.heap.size = p := by omega
      have hbm : bytes mask = (bcells mask).toArray := by rw [← bytes_toList]
      have HBM := Lib.hid hbm
      clear hW hD hKW hnew hal hm hbm
      generalize w.heap.size = n at *
      rw [HBM.out]
      have HM : Hid (∀ (u : World) (d : Dk.D), DiskAt u p g d → DiskAt (u.setCells p 3 (bcells mask)) p g { d with mask := mask }) := Lib.hid (fun u d h => h.setMask mask HL.out)
      clear HL HBM
      generalize bcells mask = bm at *
      go_region_held3 (fun w' => w'.rangeAt n 0 bm ∧ w'.there p 3 16 ∧ w'.cell? ⟨p, 2, none⟩ = some (cellOf w' ⟨p, 2, none⟩) ∧ w'.frozen? ⟨p, 2, none⟩ = false) (first | exact cut_keep0 (by assumption) (by assumption) (by assumption) (by assumption) | exact cut_keep1 (by assumption) (by assumption) | exact cut_keep2 (by assumption) (by assumption)) (fail)
      all_goals
        go_wp2
        go_ret
        first
        | exact ⟨rfl, HM.out _ _ (HD.out.setLeft whole (by omega) hw).drew, Kept.setCells (by simp) _ _ _ (HKW.out.setCell (by simp) _)⟩
        | exact ⟨rfl, ((HM.out _ _ HD.out).setLeft whole (by omega) hw).drew, (Kept.setCells (by simp) _ _ _ HKW.out).setCell (by simp) _⟩
        | exact ⟨rfl, (HM.out _ _ HD.out).setLeft whole (by omega) hw, (Kept.setCells (by simp) _ _ _ HKW.out).setCell (by simp) _⟩
end Go.Proofs.Ytdnjjemdnlegdaa
namespace Go.Proofs.Ytdnjjemdnlegdaa
set_option linter.unusedVariables false
set_option linter.unusedSimpArgs false
open Go Go.RowKit

theorem wr_i64 {n : Int} (h0 : -9223372036854775808 ≤ n) (h1 : n ≤ 9223372036854775807) : IntKind.i64.wrap n = n := by rw [IntKind.wrap_i64]; omega

/-- The loop's body at number k: the disk behind it. -/
theorem run_next (at_ : Nat) (xs : List (BitVec 8)) (n k : Nat) (d : Dk.D) (hk : k < n) (hl : ¬ d.left = 0) : Dk.run at_ xs (n - k) k d = Dk.run at_ xs (n - (k + 1)) (k + 1) (Dk.wstep d at_ xs k) := by
  rw [show n - k = (n - (k + 1)) + 1 by omega, Dk.run, if_neg hl]
theorem run_torn (at_ : Nat) (xs : List (BitVec 8)) (n k : Nat) (d : Dk.D) (hk : k < n) (hl : d.left = 0) : Dk.run at_ xs (n - k) k d = (Dk.tear d at_ xs k, 12) := by
  rw [show n - k = (n - (k + 1)) + 1 by omega, Dk.run, if_pos hl]

theorem torn_at {w : World} {p g : Nat} {d : Dk.D} (h : DiskAt w p g d) (k o l cc b o2 l2 c2 : Nat) (ys : List (BitVec 8)) (ho : o = 128 * k) (hl : l = 128) (hl2 : l2 = 128) (hk : 128 * k + 128 ≤ d.b.length) (hcap : 128 ≤ cc)
    (hs : SlB w (.slice (some ⟨b, o2, none⟩) 128 c2) ys) (hy : ys.length = 128) (hg : b ≠ g) (hp : b ≠ p) :
    Calls Try.prog 50 #[.pointer (some ⟨p, 0, none⟩), .slice (some ⟨g, o, none⟩) l cc, .slice (some ⟨b, o2, none⟩) l2 c2] w fun e w' =>
      e = .returned (.tuple #[]) ∧ DiskAt w' p g { d with b := splice d.b (128 * k) (Dk.tornL d.mask (Dk.sect d.b k) ys), off := true, left := -1 } ∧ Kept [p, g] w w' := by
  subst ho hl hl2
  exact dk_torn h k cc _ ys hk hcap hs hy (by simpa [Value.ownBlock] using hg) (by simpa [Value.ownBlock] using hp)

section
variable {P : Program}
/-- copy into a disk's bytes. -/
theorem wpList_copy_dk {ops : Array Oper} {rest : List Oper} {o : Oper} {a : Act} {w : World} {Q : Exit → Act → World → Prop} (hgd : o.guard = none) (x s : Operand) (T E : TypeId)
    (ho : o.op = .call { callee := .builtin .copy, args := #[x, s], argTypes := #[T, T] }) (hu : P.underlying T = some (.slice E)) (hsz : (P.info? E).map (·.size) = some 1)
    (p g off dLen dCap : Nat) (d : Dk.D) (hD : DiskAt w p g d) (u : Value) (ys : List (BitVec 8)) (hsl : SlB w u ys) (hfit : off + dLen ≤ d.b.length) (hd : a.eval x = .slice (some ⟨g, off, none⟩) dLen dCap) (hs : a.eval s = u)
    (h : ∀ w', DiskAt w' p g { d with b := splice d.b off (ys.take dLen) } → Kept [p, g] w w' → wpList P ops Q rest (a.put o.dst (goInt (Nat.min ys.length dLen))) w') : wpList P ops Q (o :: rest) a w :=
  wpList_copy_b hgd x s T E ho hu hsz g off dLen dCap u ys hd hs hsl d.b d.rest 5 hD.data hfit
    (h _ (hD.setData _ (Dk.splice_length _ _ _ (by rw [List.length_take]; omega))) ((Kept.refl _ _).setRow (by simp) _))
end
theorem max_sub (x : Int) : max (x - 1) (-1) = if x - 1 < -1 then -1 else x - 1 := by omega

set_option maxRecDepth 100000 in
set_option maxHeartbeats 2000000 in
theorem dk_write_ok {w : World} {p g : Nat} {d : Dk.D} (h : DiskAt w p g d) (a n b off cap : Nat) (xs : List (BitVec 8)) (hs : SlB w (.slice (some ⟨b, off, none⟩) xs.length cap) xs) (hx : xs.length = n * 128) (hn : 1 ≤ n)
    (hap : b ≠ g ∧ b ≠ p) (ha : (a + n) * 128 ≤ d.b.length) (hm : Dk.may d (a : Int) (n : Int) = 0) :
    Calls Try.prog 19 #[.pointer (some ⟨p, 0, none⟩), .int .i64 (a : Int), .slice (some ⟨b, off, none⟩) (n * 128) cap] w fun e w' =>
      e = .returned (.int .i64 (Dk.run a xs n 0 d).2) ∧ DiskAt w' p g (Dk.run a xs n 0 d).1 ∧ Kept [p, g] w w' := by
  have hp := h.pos
  have HC := Lib.hid (dk_is h)
  have HM := dk_may h (a : Int) (n : Int) (by omega) (by omega) (by omega)
  rw [hm] at HM
  have HM := Lib.hid HM
  have HX := Lib.hid hx
  rw [hx] at hs
  have HS := Lib.hid hs
  have hcap := hs.bounds.2.1
  obtain ⟨R, hR⟩ : ∃ R, R = Dk.run a xs n 0 d := ⟨_, rfl⟩
  rw [← hR]
  have HR := Lib.hid hR.symm
  have HD := Lib.hid h
  have hbl : ∃ m, d.b.length = m ∧ (a + n) * 128 ≤ m ∧ m ≤ 2097152 := ⟨_, rfl, ha, hp.2⟩
  obtain ⟨m, hbl, hm1, hm2⟩ := hbl
  have HBL := Lib.hid hbl
  clear hbl hs hx hR h ha hm hp
  have z1 : ((n : Int) * 128) % 128 = 0 := by omega
  have z2 : ((n : Int) * 128) / 128 = n := by omega
  go_enter Try.func19, Try.ntmps19
  go_wp2_with (first | (go_at_call 47; refine HC.out.mono ?_; rintro e w' ⟨rfl, rfl⟩) | (go_at_call 49; refine HM.out.mono ?_; rintro e w' ⟨rfl, rfl⟩))
  go_loopw [30] (fun i wr => ∃ (k : Nat) (d' : Dk.D), k ≤ n ∧ i = .int .i64 k ∧ Hid (DiskAt wr p g d') ∧ Hid (Dk.run a xs (n - k) k d' = R) ∧ Hid (d'.b.length = m) ∧ Hid (Kept [p, g] w wr)) (fun i _ => n - (intOf i).toNat)
  case atStart => exact ⟨0, d, by omega, rfl, HD, HR, HBL, Lib.hid (Kept.refl _ _)⟩
  case round =>
    clear HD HR HBL HC HM
    obtain ⟨k, d', hk, rfl, HD, HR, HBL, HK⟩ := hrel
    by_cases hlt : k < n
    · have c0 := HD.out.c0
      have hcp := HD.out.caps
      rw [HBL.out] at c0 hcp
      have c2 := HD.out.c2
      have c19 := HD.out.c19
      have f2 := HD.out.fr 2
      have f19 := HD.out.fr 19
      obtain ⟨c, hc⟩ : ∃ c, d'.cap = c := ⟨_, rfl⟩
      rw [hc] at c0 hcp
      clear hc
      have q1 : IntKind.i64.wrap ((a : Int) + k) = a + k := wr_i64 (by omega) (by omega)
      have q2 : IntKind.i64.wrap (((a : Int) + k) * 128) = (a + k) * 128 := wr_i64 (by omega) (by omega)
      have q3 : IntKind.i64.wrap ((a : Int) + k + 1) = a + k + 1 := wr_i64 (by omega) (by omega)
      have q4 : IntKind.i64.wrap (((a : Int) + k + 1) * 128) = (a + k + 1) * 128 := wr_i64 (by omega) (by omega)
      have q5 : IntKind.i64.wrap ((k : Int) * 128) = k * 128 := wr_i64 (by omega) (by omega)
      have q6 : IntKind.i64.wrap ((k : Int) + 1) = k + 1 := wr_i64 (by omega) (by omega)
      have q7 : IntKind.i64.wrap (((k : Int) + 1) * 128) = (k + 1) * 128 := wr_i64 (by omega) (by omega)
      have hseg := ((HS.out.kept HK.out (by simp; omega)).drop (k * 128) (by omega)).take 128 (by omega)
      rw [show List.take 128 (List.drop (k * 128) xs) = Dk.sect xs k by rw [Nat.mul_comm]; rfl] at hseg
      have HSEG := Lib.hid hseg
      have HLEN := Lib.hid (Dk.sect_length xs k n HX.out hlt)
      have hseg2 : SlB wr (.slice (some ⟨b, off + k * 128, none⟩) ((k + 1) * 128 - k * 128) (cap - k * 128)) (Dk.sect xs k) := by rw [show (k + 1) * 128 - k * 128 = 128 by omega]; exact hseg
      have HSEG2 := Lib.hid hseg2
      have HFIT := Lib.hid (show (a + k) * 128 + ((a + k + 1) * 128 - (a + k) * 128) ≤ d'.b.length by rw [HBL.out]; omega)
      clear hseg hseg2
      by_cases hl : d'.left = 0
      · rw [hl] at c2
        have HT := Lib.hid ((run_torn a xs n k d' hlt hl).symm.trans HR.out)
        clear hl
        go_wp2
        go_quiet (fail)
        go_wp2_with (go_at_call 50; refine (torn_at ((HD.out.drewN _).setWrites _) (a + k) _ _ _ _ _ _ _ (Dk.sect xs k) (by omega) (by omega) (by omega) (by show _ ≤ d'.b.length; rw [HBL.out]; omega) (by omega) ((SlB.drewN HSEG.out _).setCell hap.2 _) HLEN.out hap.1 hap.2).mono ?_; rintro e w2 ⟨rfl, hD2, hK2⟩)
        go_ret
        rw [← HT.out]
        rw [← IntWalk.i64_left] at hD2
        exact ⟨rfl, hD2, (((HK.out.drewN _).setCell (by simp) _).trans hK2)⟩
      · have hl' : (d'.left == 0) = false := by simpa using hl
        have HN := Lib.hid ((run_next a xs n k d' hlt hl).symm.trans HR.out)
        have hl0 := HD.out.ok.left0
        have hl1 := HD.out.ok.left1
        clear hl
        go_wp2
        go_quiet (fail)
        go_wp2_with (refine wpList_copy_dk rfl (.tmp 70) (.tmp 71) 22 5 rfl Try.underlying22 (by kernel_rfl) p g ((a + k) * 128) ((a + k + 1) * 128 - (a + k) * 128) (c - (a + k) * 128) { d' with writes := wrap64 (d'.writes + 1) } ((HD.out.drewN _).setWrites _) (.slice (some ⟨b, off + k * 128, none⟩) ((k + 1) * 128 - k * 128) (cap - k * 128)) (Dk.sect xs k) ((SlB.drewN HSEG2.out _).setCell hap.2 _) HFIT.out rfl rfl ?_; intro w2 hD2 hK2; have c2' := hD2.c2; have f2' := hD2.fr 2; have HD2 := Lib.hid hD2; have HK2 := Lib.hid hK2; clear hD2 hK2)
        refine ⟨⟨k + 1, Dk.wstep d' a xs k, by omega, by go_num, ?_, HN, ?_, ?_⟩, by simp [intOf]; omega⟩
        · refine Lib.hid ?_
          have h3 := HD2.out.setLeft (max (d'.left - 1) (-1)) (by omega) (by omega)
          rw [← max_sub]
          simp only [show (a + k + 1) * 128 - (a + k) * 128 = 128 by omega] at h3
          simp only [List.take_of_length_le (show (Dk.sect xs k).length ≤ 128 by rw [HLEN.out]; omega), show (a + k) * 128 = 128 * (a + k) by omega] at h3
          rw [← IntWalk.i64_left] at h3
          exact h3
        · refine Lib.hid ?_
          rw [Dk.wstep_len a xs k n HX.out hlt (by rw [HBL.out]; exact hm1)]
          exact HBL.out
        · exact Lib.hid (((HK.out.drewN _).setCell (by simp) _).trans (HK2.out.setCell (by simp) _))
    · obtain rfl : k = n := by omega
      have hR : R = (d', 0) := by rw [← HR.out, Nat.sub_self]; rfl
      clear HR
      subst hR
      go_wp2
      go_ret
      exact ⟨rfl, HD.out, HK.out⟩

/-- Sectors are written. -/
theorem dk_write {w : World} {p g : Nat} {d : Dk.D} (h : DiskAt w p g d) (at_ : Int) (v : Value) (xs : List (BitVec 8)) (hs : SlB w v xs) (hl : xs.length ≤ 1000000000) (hap : Apart v xs [g, p]) (ha0 : -9223372036854775808 ≤ at_) (ha1 : at_ ≤ 9223372036854775807) :
    Calls Try.prog 19 #[.pointer (some ⟨p, 0, none⟩), .int .i64 at_, v] w fun e w' => e = .returned (.int .i64 (Dk.write d at_ xs).2) ∧ DiskAt w' p g (Dk.write d at_ xs).1 ∧ Kept [p, g] w w' := by
  have HC := Lib.hid (dk_is h)
  have HM := dk_may h at_ ((xs.length / 128 : Nat) : Int) ha1 (by omega) (by omega)
  have HD := Lib.hid h
  by_cases hmod : xs.length % 128 ≠ 0
  · have hw : Dk.write d at_ xs = (d, 2) := by unfold Dk.write; rw [if_pos hmod]
    rw [hw]
    obtain ⟨a, cap, rfl⟩ := hs.len
    clear hs hap HM hw h
    generalize xs.length = k at *
    have hk : ((k : Int) % 128 != 0) = true := by rw [bne_iff_ne]; omega
    clear hmod
    go_enter Try.func19, Try.ntmps19
    go_wp2_with (go_at_call 47; refine HC.out.mono ?_; rintro e w' ⟨rfl, rfl⟩)
    go_ret
    exact ⟨rfl, HD.out, Kept.refl _ _⟩
  · obtain ⟨n, hn⟩ : ∃ n, xs.length / 128 = n := ⟨_, rfl⟩
    have hx : xs.length = n * 128 := by omega
    rw [hn] at HM
    have hk : ((((n * 128 : Nat) : Int)) % 128 != 0) = false := by rw [bne_eq_false_iff_eq]; omega
    by_cases hm : Dk.may d at_ (n : Int) = 0
    · have hw : Dk.write d at_ xs = Dk.run at_.toNat xs n 0 d := by unfold Dk.write; rw [if_neg hmod, hn, if_neg (by omega)]
      rw [hw]
      have h2 := (Dk.may_zero d at_ n).1 hm
      obtain ⟨a, rfl⟩ := Int.eq_ofNat_of_zero_le h2.1.1
      rw [Int.toNat_natCast]
      by_cases hn0 : n = 0
      · subst hn0
        obtain ⟨c, cap, rfl⟩ := hs.len
        rw [show Dk.run a xs 0 0 d = (d, 0) from rfl, hx]
        rw [hm] at HM
        have HM := Lib.hid HM
        clear hs hap hw h h2 hm hx hn hmod hk
        go_enter Try.func19, Try.ntmps19
        go_wp2_with (first | (go_at_call 47; refine HC.out.mono ?_; rintro e w' ⟨rfl, rfl⟩) | (go_at_call 49; refine HM.out.mono ?_; rintro e w' ⟨rfl, rfl⟩))
        go_loopw [30] (fun i wr => i = .int .i64 0 ∧ wr = w) (fun _ _ => 0)
        case atStart => exact ⟨rfl, rfl⟩
        case round =>
          obtain ⟨rfl, rfl⟩ := hrel
          go_wp2
          go_ret
          exact ⟨rfl, HD.out, Kept.refl _ _⟩
      · obtain ⟨b, off, cap, rfl, hcap, hb⟩ := hs.open_ (n * 128) hx (by omega)
        have hne : xs ≠ [] := by rintro rfl; simp at hx; omega
        have hapb := hap hne b rfl
        simp only [List.mem_cons, List.not_mem_nil, or_false, not_or] at hapb
        rw [← hx] at hs
        exact dk_write_ok h a n b off cap xs hs hx (by omega) hapb (by omega) hm
    · have hw : Dk.write d at_ xs = (d, Dk.may d at_ n) := by unfold Dk.write; rw [if_neg hmod, hn, if_pos hm]
      rw [hw]
      obtain ⟨a, cap, rfl⟩ := hs.len
      rw [hx]
      have hm' : (Dk.may d at_ (n : Int) == 0) = false := by simpa using hm
      have hm2 : (Dk.may d at_ (n : Int) != 0) = true := by simpa using hm
      generalize Dk.may d at_ (n : Int) = r at *
      have HM := Lib.hid HM
      have z2 : ((n : Int) * 128) / 128 = n := by omega
      have z1 : ((n : Int) * 128) % 128 = 0 := by omega
      have hnb : n * 128 ≤ 1000000000 := by omega
      clear hs hap hw h hm hx hn hmod hk hl
      go_enter Try.func19, Try.ntmps19
      go_wp2_with (first | (go_at_call 47; refine HC.out.mono ?_; rintro e w' ⟨rfl, rfl⟩) | (go_at_call 49; refine HM.out.mono ?_; rintro e w' ⟨rfl, rfl⟩))
      go_ret
      exact ⟨rfl, HD.out, Kept.refl _ _⟩
end Go.Proofs.Ytdnjjemdnlegdaa
namespace Go.Proofs.Ytdnjjemdnlegdaa
set_option linter.unusedVariables false
set_option linter.unusedSimpArgs false
open Go Go.RowKit

theorem dcells_one (g : Nat) (d : Dk.D) : (dcells g d).toArray.all (·.oneCell') = true := by
  rw [Array.all_eq_true_iff_forall_mem]
  intro v hv
  simp only [List.mem_toArray, dcells, List.mem_append, List.mem_cons, List.not_mem_nil, or_false] at hv
  rcases hv with (rfl | rfl | rfl) | hv | rfl
  · rfl
  · rfl
  · rfl
  · exact bcells_one _ _ hv
  · rfl
/-- What a call owns, as cells. -/
theorem OwnB.cells {E base : Nat} {w : World} {v : Value} {xs : List (BitVec 8)} (h : OwnB E base w v xs) (n : Nat) (hn : xs.length = n) (h0 : 0 < n) :
    ∃ g cap rest, v = .slice (some ⟨g, 0, none⟩) n cap ∧ base ≤ g ∧ w.heap[g]? = some (.cells (bcells xs ++ rest).toArray E (0, 0)) ∧ cap = n + rest.length ∧ cap ≤ maxLen := by
  subst hn
  rcases h.2 with ⟨rfl, h2⟩ | ⟨g, cap, cur, rfl, hb, hg, hn, hm, hs, ht⟩
  · omega
  · refine ⟨g, cap, cur.toList.drop xs.length, rfl, hb, ?_, ?_, hm⟩
    · rw [hg]
      rw [Nat.mul_one] at ht
      rw [← ht, List.take_append_drop]
    · simp at hs
      simp [hs]
      omega

set_option maxRecDepth 100000 in
set_option maxHeartbeats 1000000 in
theorem dk_copy {w : World} {p g : Nat} {d : Dk.D} (h : DiskAt w p g d) : Calls Try.prog 24 #[.pointer (some ⟨p, 0, none⟩)] w fun e w' =>
    ∃ p' g' r, e = .returned (.pointer (some ⟨p', 0, none⟩)) ∧ DiskAt w' p' g' { d with rest := r } ∧ w.heap.size ≤ p' ∧ w.heap.size ≤ g' ∧ Below w.heap.size w w' := by
  have HC := Lib.hid (dk_is h)
  have HD := Lib.hid h
  have HR := Lib.hid h.row
  have HSZ := Lib.hid (show (dcells g d).toArray.size = 20 by simp [dcells_length g d h.ok.mask])
  have HI := Lib.hid (show (Try.prog.info? 46).map (·.size) = some (dcells g d).toArray.size by rw [HSZ.out]; kernel_rfl)
  have HONE := Lib.hid (dcells_one g d)
  have hpos := h.pos
  have hpl := h.ltp
  clear h
  go_enter Try.func24, Try.ntmps24
  go_upto_region 4 with (first
    | (go_at_call 47; refine HC.out.mono ?_; rintro e w' ⟨rfl, rfl⟩)
    | (refine wpList_load_row rfl 46 (.tmp 8) rfl p rfl _ _ _ _ HR.out Try.underlying46 rfl HI.out ?_)
    | (refine wpList_store_row rfl 46 (.tmp 3) (.tmp 9) rfl _ _ rfl rfl _ _ (heap_alloc_new _ _) HI.out (by rw [HSZ.out]; rfl) HONE.out ?_; rw [World.setRow_alloc_new]))
  obtain ⟨W, hW, hBW, hWs, hWn⟩ := alloc1 w (Obj.cells (dcells g d).toArray 46)
  rw [hW]
  have hDW := HD.out.below hBW (Nat.le_refl _)
  have c0 := hDW.c0
  have HB := Lib.hid (clone_any _ _ W hDW.sl (by omega))
  have HWN := Lib.hid hWn
  clear hW hWn hDW
  generalize d.cap = c at *
  generalize hm : d.b.length = m at *
  have HM := Lib.hid hm
  clear hm
  go_wp2_with (go_at_call 48; refine HB.out.mono ?_; rintro e w1 ⟨v1, rfl, ho, hb⟩; obtain ⟨g1, c1, r, rfl, hg1, hd1, rfl, hcm⟩ := ho.cells m HM.out (by omega); have hn1 := (hb.block w.heap.size (by omega)).trans HWN.out; have HN1 := Lib.hid hn1; have HD1 := Lib.hid hd1; have k0 := cell_of_row w1 w.heap.size 0 _ _ _ hn1; have k1 := frozen_of_row w1 w.heap.size 0 _ _ hn1; simp only [dcells, List.getElem?_toArray, List.cons_append, List.getElem?_cons_zero] at k0; clear ho hn1 hd1)
  go_ret
  have hne : g1 ≠ w.heap.size := by omega
  refine ⟨w.heap.size, g1, r, rfl, ⟨?_, ?_, hne, ?_⟩, Nat.le_refl _, by omega, ?_⟩
  · have := heap_setCell_same w1 w.heap.size 0 _ _ (.slice (some ⟨g1, 0, none⟩) m (m + r.length)) HN1.out
    rw [this]
    simp only [dcells, Dk.D.cap, HM.out]
    rfl
  · rw [heap_setCell_other _ _ _ _ (by simpa using hne)]
    exact HD1.out
  · exact ⟨HD.out.ok.size, HD.out.ok.mask, HD.out.ok.left0, HD.out.ok.left1, by unfold maxLen at hcm; show d.b.length + r.length ≤ _; rw [HM.out]; exact hcm⟩
  · exact (hBW.trans (hb.mono (by omega))).setCell (by simp) _
end Go.Proofs.Ytdnjjemdnlegdaa
namespace Go.Proofs.Ytdnjjemdnlegdaa
set_option linter.unusedVariables false
set_option linter.unusedSimpArgs false
open Go Go.RowKit

theorem results_row_tmp {P : Program} {fn : Func} {p u : Tmp} {ty : TypeId} (h : fn.results = #[.cell p ty, .tmp u]) (tmps : Array Value) (w : World) (g : Nat) (t : TypeId) (cs : Array Value) (fr : Nat × Nat) (d : TypeDesc)
    (hp : tmps.getD p undef = .pointer (some ⟨g, 0, none⟩)) (hg : w.heap[g]? = some (.cells cs t fr))
    (hu : P.underlying ty = some d) (hd : (match d with | .struct _ | .array _ _ => true | _ => false) = true) (hi : (P.info? ty).map (·.size) = some cs.size) :
    (results fn tmps).run P w = .ok (.tuple #[.agg cs, tmps.getD u undef]) w := by
  have hp' : tmps[p]?.getD undef = .pointer (some ⟨g, 0, none⟩) := by simpa using hp
  simp [results, h, hp', asAddr, run_loadVar_row w g t ty cs fr d hg hu hd hi]

theorem ofInt_i64 (a : Nat) (ha : a < 18446744073709551616) : (BitVec.ofInt 64 (a : Int)).toNat = a := by
  rw [BitVec.ofInt_natCast, BitVec.toNat_ofNat]; exact Nat.mod_eq_of_lt (by omega)
theorem i64_or_nat (a b : Nat) (ha : a < 4294967296) (hb : b < 4294967296) : bits .or .i64 (a : Int) (b : Int) = ((a ||| b : Nat) : Int) := by
  have hx : a ||| b < 2 ^ 32 := Nat.or_lt_two_pow (by omega) (by omega)
  show IntKind.i64.wrap ((BitVec.ofInt 64 (a : Int) ||| BitVec.ofInt 64 (b : Int)).toNat : Int) = _
  rw [BitVec.toNat_or, ofInt_i64 a (by omega), ofInt_i64 b (by omega), IntKind.wrap_i64]
  omega
theorem i64_or_add (a b k : Nat) (hb : b < 2 ^ k) (ha : a * 2 ^ k < 4294967296) (hb2 : b < 4294967296) : bits .or .i64 ((a * 2 ^ k : Nat) : Int) (b : Int) = ((a * 2 ^ k + b : Nat) : Int) := by
  rw [i64_or_nat _ _ ha hb2, ← Nat.shiftLeft_eq, Nat.shiftLeft_add_eq_or_of_lt hb]
set_option maxRecDepth 100000 in
/-- Four bytes, put together. -/
theorem i64_or4 (a b c d : Nat) (ha : a < 256) (hb : b < 256) (hc : c < 256) (hd : d < 256) :
    bits .or .i64 ((a : Int) * 16777216) ((b : Int) * 65536) = ((256 * a + b : Nat) : Int) * 65536 ∧
    bits .or .i64 (((256 * a + b : Nat) : Int) * 65536) ((c : Int) * 256) = ((65536 * a + 256 * b + c : Nat) : Int) * 256 ∧
    bits .or .i64 (((65536 * a + 256 * b + c : Nat) : Int) * 256) (d : Int) = ((16777216 * a + 65536 * b + 256 * c + d : Nat) : Int) := by
  have e1 : ((a * 16777216 : Nat) : Int) = (a : Int) * 16777216 := by simp
  have e2 : ((b * 65536 : Nat) : Int) = (b : Int) * 65536 := by simp
  have e3 : ((c * 256 : Nat) : Int) = (c : Int) * 256 := by simp
  have e4 : (((256 * a + b) * 65536 : Nat) : Int) = ((256 * a + b : Nat) : Int) * 65536 := by simp only [Int.natCast_mul]; rfl
  have e5 : (((65536 * a + 256 * b + c) * 256 : Nat) : Int) = ((65536 * a + 256 * b + c : Nat) : Int) * 256 := by simp only [Int.natCast_mul]; rfl
  have f1 : ((a * 16777216 + b * 65536 : Nat) : Int) = ((256 * a + b : Nat) : Int) * 65536 := by rw [← e4]; exact congrArg (fun n : Nat => (n : Int)) (show a * 16777216 + b * 65536 = (256 * a + b) * 65536 by omega)
  have f2 : (((256 * a + b) * 65536 + c * 256 : Nat) : Int) = ((65536 * a + 256 * b + c : Nat) : Int) * 256 := by rw [← e5]; exact congrArg (fun n : Nat => (n : Int)) (show (256 * a + b) * 65536 + c * 256 = (65536 * a + 256 * b + c) * 256 by omega)
  have f3 : (65536 * a + 256 * b + c) * 256 + d = 16777216 * a + 65536 * b + 256 * c + d := by omega
  refine ⟨?_, ?_, ?_⟩
  · have h := i64_or_add a (b * 65536) 24 (by omega) (by omega) (by omega)
    rw [show 2 ^ 24 = 16777216 from rfl, e1, e2, f1] at h
    exact h
  · have h := i64_or_add (256 * a + b) (c * 256) 16 (by omega) (by omega) (by omega)
    rw [show 2 ^ 16 = 65536 from rfl, e4, e3, f2] at h
    exact h
  · have h := i64_or_add (65536 * a + 256 * b + c) d 8 (by omega) (by omega) (by omega)
    rw [show 2 ^ 8 = 256 from rfl, e5, f3] at h
    exact h

theorem taken_any (n : Nat) (hn : n ≤ 1000000000000) (w : World) : Calls Try.prog 52 #[.int .i64 (n : Int)] w fun e w' => e = .returned (.int .i64 ((Slo.taken n : Nat) : Int)) ∧ w = w' := by
  have HT := Lib.hid (show ((Slo.taken n : Nat) : Int) = (5 + (n : Int) + 128 - 1) / 128 by unfold Slo.taken; omega)
  have h1 : (n : Int) ≤ 1000000000000 := by omega
  generalize Slo.taken n = t at HT ⊢
  go_enter Try.func52, Try.ntmps52
  go_wp2
  go_ret
  exact ⟨by rw [HT.out]; rfl, rfl⟩

/-- What stands where a slot may begin, as a value of struct found. -/
def foundV (g off cap : Nat) : Slo.Found → Array Value
  | .no => #[.slice none 0 0, .int .i64 0]
  | .bad => #[.slice none 0 0, .int .i64 9]
  | .text t => #[.slice (some ⟨g, off + 5, none⟩) t.length (cap - 5), .int .i64 0]
def foundB : Slo.Found → Bool
  | .no => false
  | _ => true

theorem val4_bytes (b : List (BitVec 8)) : Num.val4 (b.drop 1) = 16777216 * (b.getD 1 0).toNat + 65536 * (b.getD 2 0).toNat + 256 * (b.getD 3 0).toNat + (b.getD 4 0).toNat := by
  unfold Num.val4
  have e : ∀ i, (b.drop 1).getD i 0 = b.getD (1 + i) 0 := fun i => by simp [List.getD, Nat.add_comm]
  rw [e, e, e, e]

set_option maxRecDepth 100000 in
set_option maxHeartbeats 2000000 in
theorem slot_any (b : List (BitVec 8)) (g off L cap : Nat) (w : World) (hs : SlB w (.slice (some ⟨g, off, none⟩) L cap) b) (hL : 128 ≤ L) (hm : L ≤ 4000000) :
    Calls Try.prog 66 #[.slice (some ⟨g, off, none⟩) L cap] w fun e w' => e = .returned (.tuple #[.agg (foundV g off cap (Slo.slot b)), .bool (foundB (Slo.slot b))]) ∧ Below w.heap.size w w' := by
  have hbn := hs.bounds
  obtain ⟨hlen, hcap, _⟩ := hbn
  have c0 := hs.cell 0 (by omega)
  have c1 := hs.cell 1 (by omega)
  have c2 := hs.cell 2 (by omega)
  have c3 := hs.cell 3 (by omega)
  have c4 := hs.cell 4 (by omega)
  unfold byteV bv at c0 c1 c2 c3 c4
  rw [Nat.add_zero] at c0
  have hv := val4_bytes b
  have HSL := Lib.hid (show Slo.slot b = (if b.getD 0 0 = 0 then .no else if b.getD 0 0 ≠ 1 then .bad else if 262144 < Num.val4 (b.drop 1) ∨ b.length < 128 * Slo.taken (Num.val4 (b.drop 1)) then .bad else .text ((b.drop 5).take (Num.val4 (b.drop 1)))) from rfl)
  rw [← hlen] at HSL
  have hx0 : b.getD 0 0 = 0 ↔ (b.getD 0 0).toNat = 0 := ⟨fun h => by rw [h]; rfl, fun h => BitVec.eq_of_toNat_eq h⟩
  have hx1 : b.getD 0 0 = 1 ↔ (b.getD 0 0).toNat = 1 := ⟨fun h => by rw [h]; rfl, fun h => BitVec.eq_of_toNat_eq h⟩
  have htl : Num.val4 (b.drop 1) + 5 ≤ L → ((b.drop 5).take (Num.val4 (b.drop 1))).length = Num.val4 (b.drop 1) := fun h => by rw [List.length_take, List.length_drop]; omega
  generalize (b.drop 5).take (Num.val4 (b.drop 1)) = tx at HSL htl
  rw [hv] at HSL htl
  have h0 := (b.getD 0 0).isLt
  have h1 := (b.getD 1 0).isLt
  have h2 := (b.getD 2 0).isLt
  have h3 := (b.getD 3 0).isLt
  have h4 := (b.getD 4 0).isLt
  generalize (b.getD 0 0).toNat = x0 at c0 hx0 hx1 h0
  generalize (b.getD 1 0).toNat = x1 at c1 HSL htl h1
  generalize (b.getD 2 0).toNat = x2 at c2 HSL htl h2
  generalize (b.getD 3 0).toNat = x3 at c3 HSL htl h3
  generalize (b.getD 4 0).toNat = x4 at c4 HSL htl h4
  obtain ⟨V, hV⟩ : ∃ V, 16777216 * x1 + 65536 * x2 + 256 * x3 + x4 = V := ⟨_, rfl⟩
  have HOR := Lib.hid (i64_or4 x1 x2 x3 x4 h1 h2 h3 h4)
  rw [hV] at HSL htl HOR
  have HTK := Lib.hid (fun w => taken_any V (by omega) w)
  have htg := Slo.taken_ge V
  have htu := Slo.taken_le V
  have HHL := Lib.hid hlen
  generalize Slo.taken V = tk at HSL HTK htg htu
  have HB := Lib.hid (show 16777216 * x1 + 65536 * x2 + 256 * x3 + x4 < 4294967296 by omega)
  have HIF := Lib.hid (fun (cs : Array Value) (h : cs.size = 2) => (show (Try.prog.info? 98).map (·.size) = some cs.size by rw [h]; kernel_rfl))
  obtain ⟨F, hF⟩ : ∃ F, Slo.slot b = F := ⟨_, rfl⟩
  rw [hF] at HSL ⊢
  have hgl : g < w.heap.size := by
    rcases hs with ⟨⟨a, e⟩, _⟩ | ⟨b', off', cap', e, _, _, h, _⟩
    · simp at e; omega
    · simp at e; obtain ⟨⟨rfl, _⟩, _⟩ := e; exact h
  have hb0 := ((Below.refl w.heap.size w).alloc (Nat.le_refl _) (.cells #[.slice none 0 0, .int .i64 0] 98))
  have HC := Lib.hid (fun W (hW : Below w.heap.size w W) => And.intro ((hW.cell (p := ⟨g, off, none⟩) hgl).trans c0) (And.intro ((hW.cell (p := ⟨g, off + 1, none⟩) hgl).trans c1) (And.intro ((hW.cell (p := ⟨g, off + 2, none⟩) hgl).trans c2) (And.intro ((hW.cell (p := ⟨g, off + 3, none⟩) hgl).trans c3) ((hW.cell (p := ⟨g, off + 4, none⟩) hgl).trans c4)))))
  have HEND := Lib.hid (fun (cs : Array Value) (W : World) (h : W.heap[w.heap.size]? = some (.cells cs 98 (0, 0))) (hB : Below w.heap.size w W) cs' => (show Below w.heap.size w (W.setRow w.heap.size cs') from hB.trans (((Kept.refl [w.heap.size] W).setRow (by simp) _).toBelow (B := w.heap.size) (by simp) hB.size)))
  clear hs hlen hF hv hgl hb0 c0 c1 c2 c3 c4
  by_cases he0 : x0 = 0
  · have HSV := Lib.hid (show F = .no by rw [HSL.out, if_pos (hx0.2 he0)])
    subst he0
    clear HSL hx0 hx1
    rw [HSV.out]
    go_enter Try.func66, Try.ntmps66
    go_upto_region 1 with fail
    obtain ⟨X, hX, hBX, hXs, hX0⟩ := alloc1 w (.cells #[.slice none 0 0, .int .i64 0] 98)
    rw [hX]
    have HBX := Lib.hid hBX
    have HX0 := Lib.hid hX0
    have d0 := (HC.out X hBX).1
    clear hX hBX hXs hX0
    go_wp2_with (refine wpList_store_row rfl 98 (.tmp 2) (.tmp 11) rfl w.heap.size _ rfl rfl _ _ HX0.out (HIF.out _ rfl) rfl (by kernel_rfl) ?_)
    exact bodyPost_ret (results_row_tmp Try.results66 _ _ w.heap.size _ _ _ _ rfl (setRow_heap _ _ _ _ _ _ HX0.out) Try.underlying98 rfl (HIF.out _ rfl)) rfl ⟨rfl, HEND.out _ X HX0.out HBX.out _⟩
  · by_cases he1 : x0 = 1
    · subst he1
      rw [if_neg (fun h => absurd (hx0.1 h) (by decide)), if_neg (fun h => h (hx1.2 rfl))] at HSL
      clear hx0 hx1 h0
      obtain ⟨X, hX, hBX, hXs, hX0⟩ := alloc1 w (.cells #[.slice none 0 0, .int .i64 0] 98)
      have HX := Lib.hid hX
      have HBX := Lib.hid hBX
      have HX0 := Lib.hid hX0
      obtain ⟨d0, d1, d2, d3, d4⟩ := HC.out X hBX
      clear hX hBX hXs hX0
      obtain ⟨o1, o2, o3⟩ := HOR.out
      simp only [Int.natCast_add, Int.natCast_mul, Int.cast_ofNat_Int] at o1 o2 o3
      have htu' : (V : Int) > 262144 ∨ (V : Int) ≤ 262144 := by omega
      rcases htu' with hv | hv
      · have HSV := Lib.hid (show F = .bad by rw [HSL.out, if_pos (.inl (by omega))])
        clear HSL htg htu htl
        rw [HSV.out]
        go_enter Try.func66, Try.ntmps66
        go_upto_region 1 with fail
        rw [HX.out]
        go_wp2
        go_quiet (fail)
        go_wp2_with (refine wpList_store_row rfl 98 (.tmp 2) (.tmp 46) rfl w.heap.size _ rfl rfl _ _ HX0.out (HIF.out _ rfl) rfl (by kernel_rfl) ?_)
        exact bodyPost_ret (results_row_tmp Try.results66 _ _ w.heap.size _ _ _ _ rfl (setRow_heap (X.drewN _) _ _ _ _ _ HX0.out) Try.underlying98 rfl (HIF.out _ rfl)) rfl ⟨rfl, HEND.out _ (X.drewN _) HX0.out (Below.drewN HBX.out _) _⟩
      · have hcl : (tk : Int) * 128 > (L : Int) ∨ (tk : Int) * 128 ≤ (L : Int) := by omega
        rcases hcl with hc | hc
        · have HSV := Lib.hid (show F = .bad by rw [HSL.out, if_pos (.inr (by omega))])
          clear HSL htl
          rw [HSV.out]
          go_enter Try.func66, Try.ntmps66
          go_upto_region 1 with fail
          rw [HX.out]
          go_wp2
          go_quiet (fail)
          go_wp2_with (first | (go_at_call 52; refine (HTK.out _).mono ?_; rintro e W ⟨rfl, rfl⟩) | refine wpList_store_row rfl 98 (.tmp 2) (.tmp 46) rfl w.heap.size _ rfl rfl _ _ HX0.out (HIF.out _ rfl) rfl (by kernel_rfl) ?_)
          exact bodyPost_ret (results_row_tmp Try.results66 _ _ w.heap.size _ _ _ _ rfl (setRow_heap (X.drewN _) _ _ _ _ _ HX0.out) Try.underlying98 rfl (HIF.out _ rfl)) rfl ⟨rfl, HEND.out _ (X.drewN _) HX0.out (Below.drewN HBX.out _) _⟩
        · have HTL := Lib.hid (htl (by omega))
          have HSV := Lib.hid (show F = .text tx by rw [HSL.out, if_neg (by omega)])
          clear HSL htl
          rw [HSV.out]
          rw [show foundV g off cap (.text tx) = #[.slice (some ⟨g, off + 5, none⟩) V (cap - 5), .int .i64 0] by simp only [foundV]; rw [HTL.out]]
          go_enter Try.func66, Try.ntmps66
          go_upto_region 1 with fail
          rw [HX.out]
          go_wp2
          go_quiet (fail)
          go_wp2_with (first | (go_at_call 52; refine (HTK.out _).mono ?_; rintro e W ⟨rfl, rfl⟩) | refine wpList_store_row rfl 98 (.tmp 2) (.tmp 51) rfl w.heap.size _ rfl rfl _ _ HX0.out (HIF.out _ rfl) rfl (by kernel_rfl) ?_)
          exact bodyPost_ret (results_row_tmp Try.results66 _ _ w.heap.size _ _ _ _ rfl (setRow_heap (X.drewN _) _ _ _ _ _ HX0.out) Try.underlying98 rfl (HIF.out _ rfl)) rfl ⟨rfl, HEND.out _ (X.drewN _) HX0.out (Below.drewN HBX.out _) _⟩
    · have HSV := Lib.hid (show F = .bad by rw [HSL.out, if_neg (fun h => he0 (hx0.1 h)), if_pos (fun h => he1 (hx1.1 h))])
      clear HSL hx0 hx1
      rw [HSV.out]
      go_enter Try.func66, Try.ntmps66
      go_upto_region 1 with fail
      obtain ⟨X, hX, hBX, hXs, hX0⟩ := alloc1 w (.cells #[.slice none 0 0, .int .i64 0] 98)
      rw [hX]
      have HBX := Lib.hid hBX
      have HX0 := Lib.hid hX0
      have d0 := (HC.out X hBX).1
      clear hX hBX hXs hX0
      go_wp2_with (refine wpList_store_row rfl 98 (.tmp 2) (.tmp 8) rfl w.heap.size _ rfl rfl _ _ HX0.out (HIF.out _ rfl) rfl (by kernel_rfl) ?_)
      exact bodyPost_ret (results_row_tmp Try.results66 _ _ w.heap.size _ _ _ _ rfl (setRow_heap _ _ _ _ _ _ HX0.out) Try.underlying98 rfl (HIF.out _ rfl)) rfl ⟨rfl, HEND.out _ X HX0.out HBX.out _⟩
end Go.Proofs.Ytdnjjemdnlegdaa
namespace Go.Proofs.Ytdnjjemdnlegdaa
set_option linter.unusedVariables false
set_option linter.unusedSimpArgs false
open Go Go.RowKit
section
variable {P : Program} {ops : Array Oper} {o : Oper} {a : Act} {w : World}
/-- What follows: K behind the operation, Q at a panic. -/
def orElse (K : Act → World → Prop) (Q : Exit → Act → World → Prop) : Exit → Act → World → Prop
  | .normal, a, w => K a w
  | .outgrown, _, _ => False
  | x, a, w => Q x a w
theorem wp_orElse {K : Act → World → Prop} {Q : Exit → Act → World → Prop} (h : Oper.wp P o a w K (orElse K Q)) : Oper.wp P o a w K Q := by
  unfold Oper.wp at h ⊢
  generalize (execOp a.eval o).run P w = r at *
  cases r with
  | ok n w' =>
    cases n <;> simp only [Oper.upon] at h ⊢
    case value u => exact h
    case skip => exact h
    case defer d => exact h
    case enter f args =>
      refine Calls.mono h fun e w'' he => ?_
      cases e with
      | returned u => exact he
      | panicked c => exact he
      | outgrown => exact he.elim fun _ h => h.elim fun _ h => h.elim
    case row r args => exact h
  | halt x w' =>
    cases x <;> simp only [Oper.upon] at h ⊢
    case panic u => exact h
/-- A step of a drawn region, by a law on the list of a plain region's operations. -/
theorem any_of_list {K : Act → World → Prop} {Q : Exit → Act → World → Prop} {E : Prop} (hw : Region.wanted o (yielded ops a.tmps) = true)
    (h : ∀ Q' : Exit → Act → World → Prop, (∀ a w, K a w → Q' .normal a w) → wpList P ops Q' [{ o with guard := none }] a w) : if Region.wanted o (yielded ops a.tmps) = true then Oper.wp P o a w K Q else E := by
  rw [if_pos hw]
  have h1 := h (orElse K Q) (fun _ _ h => h)
  unfold wpList at h1
  rw [if_pos (by simp [Region.wanted])] at h1
  have e : ∀ K Q, Oper.wp P { o with guard := none } a w K Q = Oper.wp P o a w K Q := fun _ _ => rfl
  rw [e] at h1
  exact h1.elim wp_orElse fun h2 => h2.2.elim fun _ h => h.elim fun _ h => h.elim
end
theorem rng_below {w w' : World} {B R o : Nat} {cs : List Value} (h : w.rangeAt R o cs) (hb : Below B w w') (hR : R < B) : w'.rangeAt R o cs :=
  fun j v hj => (World.cell?_of_block (a := ⟨R, o + j, none⟩) (hb.block R hR)).trans (h j v hj)
theorem rng_of_row (w : World) (R : Nat) (cs : Array Value) (t : TypeId) (fr : Nat × Nat) (h : w.heap[R]? = some (.cells cs t fr)) : w.rangeAt R 0 cs.toList :=
  fun j v hj => by rw [Nat.zero_add, cell_of_row w R j _ _ _ h, ← hj, Array.getElem?_toList]
theorem rng_grown {w w' : World} {R o : Nat} {cs : List Value} {row : Option Nat} (h : w.rangeAt R o cs) (hg : w.grownBy w' row) (hR : R < w.heap.size) (hne : row ≠ some R) : w'.rangeAt R o cs :=
  fun j v hj => (World.cell?_of_block (a := ⟨R, o + j, none⟩) (hg.block R hR (fun e => hne e.symm))).trans (h j v hj)
theorem rng_bel {w w' : World} {R : Nat} {cs : Array Value} {t : TypeId} {fr : Nat × Nat} (h : w.heap[R]? = some (.cells cs t fr)) (hb : Below w.heap.size w w') : w'.rangeAt R 0 cs.toList :=
  rng_of_row w' R cs t fr ((hb.block R (Array.getElem?_eq_some_iff.1 h).1).trans h)
theorem bytes_bcells (L : List (BitVec 8)) : (bcells L ++ []).toArray = bytes L := by simp [bytes, bcells, byteV]
section
variable {P : Program}
/-- copy(arr[:], s): into an array known whole. -/
theorem wpList_copy_arr {ops : Array Oper} {rest : List Oper} {o : Oper} {a : Act} {w : World} {Q : Exit → Act → World → Prop} (hgd : o.guard = none) (d s : Operand) (T E : TypeId)
    (ho : o.op = .call { callee := .builtin .copy, args := #[d, s], argTypes := #[T, T] }) (hu : P.underlying T = some (.slice E)) (hsz : (P.info? E).map (·.size) = some 1)
    (g dLen dCap : Nat) (u : Value) (ys : List (BitVec 8)) (hd : a.eval d = .slice (some ⟨g, 0, none⟩) dLen dCap) (hs : a.eval s = u) (hsl : SlB w u ys)
    (L : List (BitVec 8)) (t : TypeId) (hg : w.heap[g]? = some (.cells (bytes L) t (0, 0))) (hfit : dLen = L.length)
    (h : wpList P ops Q rest (a.put o.dst (goInt (Nat.min ys.length dLen))) (w.setRow g (bytes (ys.take L.length ++ L.drop ys.length)))) : wpList P ops Q (o :: rest) a w := by
  refine wpList_copy_b hgd d s T E ho hu hsz g 0 dLen dCap u ys hd hs hsl L [] t (by rw [bytes_bcells]; exact hg) (by omega) ?_
  rw [bytes_bcells, hfit]
  rw [hfit] at h
  have e : splice L 0 (ys.take L.length) = ys.take L.length ++ L.drop ys.length := by
    simp only [splice, List.take_zero, List.nil_append, Nat.zero_add]
    congr 1
    rw [List.length_take]
    by_cases hc : L.length ≤ ys.length
    · rw [List.drop_of_length_le (by omega), List.drop_of_length_le (by omega)]
    · rw [Nat.min_eq_right (by omega)]
  rw [e]
  exact h
end
end Go.Proofs.Ytdnjjemdnlegdaa
namespace Go.Proofs.Ytdnjjemdnlegdaa
set_option linter.unusedVariables false
set_option linter.unusedSimpArgs false
open Go Go.RowKit

theorem sl_row {w : World} {b n : Nat} {t : TypeId} {fr : Nat × Nat} (xs : List (BitVec 8)) (h : w.heap[b]? = some (.cells (bytes xs) t fr)) (hn : n = xs.length) (hm : xs.length ≤ 1000000) : SlB w (.slice (some ⟨b, 0, none⟩) n n) xs := by
  subst hn
  exact SlB.ofRow (C := bytes xs) (bytes_toList _) rfl (Array.getElem?_eq_some_iff.1 h).1 (fun j => cell_of_row w b j _ _ _ h) (Nat.le_refl _) (by unfold maxLen; omega)
theorem make_b (n : Nat) (hn : n ≤ 1000000) (w : World) : (Instr.makeSlice 22 (.int .i64 (n : Int)) (.int .i64 (n : Int))).run Try.prog w = .ok (.slice (some ⟨w.heap.size, 0, none⟩) n n) (w.alloc (.cells (bytes (List.replicate n 0)) 5)) := by
  obtain ⟨i, hi, hz, hsz, hby⟩ := info_parts info_u8
  have hm := run_makeSlice (P := Try.prog) w 22 5 i (.int .u8 0) Try.underlying22 hi hz .i64 .i64 (n : Int) (n : Int) (by omega) (by omega) (by rw [hsz]; omega) (by rw [hby]; omega) (by omega)
  rw [hsz, Int.toNat_natCast, Nat.mul_one] at hm
  have hc : madeCells (Value.int .u8 0).cells n = bytes (List.replicate n 0) := by
    have e0 : (Value.int .u8 0).cells = #[.int .u8 0] := rfl
    apply Array.ext_getElem?
    intro j
    by_cases hj : j < n
    · rw [bytes_get? _ j (by simpa using hj)]
      simp [madeCells, e0, hj, bv, Nat.mod_one]
    · rw [Array.getElem?_eq_none (by rw [size_madeCells]; omega), Array.getElem?_eq_none (by rw [bytes_size]; simp; omega)]
  rw [hc] at hm
  exact hm
theorem bv_nat (k : Nat) : bv (BitVec.ofNat 8 k) = (k : Int) % 256 := by
  unfold bv
  rw [BitVec.toNat_ofNat]
  omega

/-- A block of its own, with these bytes. -/
def NewB (B : Nat) (w : World) (v : Value) (xs : List (BitVec 8)) : Prop := ∃ q, v = .slice (some ⟨q, 0, none⟩) xs.length xs.length ∧ B ≤ q ∧ w.heap[q]? = some (.cells (bytes xs) 5 (0, 0))

theorem splice_laid (t : List (BitVec 8)) (h : List (BitVec 8)) (hh : h.length = 5) : splice (splice (List.replicate (128 * Slo.taken t.length) 0) 0 (h.take (128 * Slo.taken t.length))) 5 (t.take (128 * Slo.taken t.length - 5)) = h ++ (t ++ List.replicate (128 * Slo.taken t.length - 5 - t.length) 0) := by
  have hg := Slo.taken_ge t.length
  rw [List.take_of_length_le (by omega), List.take_of_length_le (by omega)]
  simp only [splice, List.take_zero, List.nil_append, Nat.zero_add]
  rw [List.take_left' hh, hh, List.drop_append, hh, List.drop_replicate, List.drop_replicate, List.drop_of_length_le (l := h) (by omega)]
  simp only [List.nil_append]
  congr 3
  omega

set_option maxRecDepth 100000 in
set_option maxHeartbeats 2000000 in
theorem laid_any (t : List (BitVec 8)) (v : Value) (w : World) (hs : SlB w v t) (hl : t.length ≤ 262144) :
    Calls Try.prog 53 #[v] w fun e w' => ∃ v', e = .returned v' ∧ NewB w.heap.size w' v' (Slo.laid 0 t) ∧ Below w.heap.size w w' := by
  obtain ⟨a, cap, rfl⟩ := hs.len
  have hg := Slo.taken_ge t.length
  have hu := Slo.taken_le t.length
  have HLL := Lib.hid (Slo.laid_length 0 t)
  have HLD := Lib.hid (show Slo.laid 0 t = (0 :: Num.num t.length 4) ++ (t ++ List.replicate (128 * Slo.taken t.length - 5 - t.length) 0) from rfl)
  have HSP := Lib.hid (splice_laid t (0 :: Num.num t.length 4) (by simp [Num.num_length]))
  have HS := Lib.hid (fun W (hB : Below w.heap.size w W) => hs.below hB (Nat.le_refl _))
  have HTK := Lib.hid (fun w => taken_any t.length (by omega) w)
  have HMK := Lib.hid (fun w => make_b (128 * Slo.taken t.length) (by omega) w)
  have HN4 := Lib.hid (show ((0 : BitVec 8) :: Num.num t.length 4) = [0, BitVec.ofNat 8 (t.length / 16777216), BitVec.ofNat 8 (t.length / 65536), BitVec.ofNat 8 (t.length / 256), BitVec.ofNat 8 t.length] by rw [Num.num4])
  obtain ⟨R, hR⟩ : ∃ R, Slo.laid 0 t = R := ⟨_, rfl⟩
  rw [hR] at HLL HLD ⊢
  rw [← HLD.out] at HSP
  clear hs hR HLD
  obtain ⟨n, hn⟩ : ∃ n, t.length = n := ⟨_, rfl⟩
  have HN := Lib.hid hn
  rw [hn] at hg hu HLL HSP HTK HMK HN4 hl ⊢
  clear hn
  generalize Slo.taken n = tk at hg hu HLL HSP HTK HMK
  obtain ⟨M, hM⟩ : ∃ M, 128 * tk = M := ⟨_, rfl⟩
  rw [hM] at hg hu HLL HSP HMK
  have HM := Lib.hid (show wrap64 ((tk : Int) * 128) = (M : Int) ∧ IntKind.i64.wrap ((tk : Int) * 128) = (M : Int) by
    have e : IntKind.i64.wrap ((tk : Int) * 128) = (M : Int) := by rw [IntKind.wrap_i64]; omega
    exact ⟨by rw [wrap64]; omega, e⟩)
  have HMB := Lib.hid (show 5 < M ∧ M ≤ 1000000 ∧ n ≤ M - 5 by omega)
  clear hl hg hu hM
  go_enter Try.func53, Try.ntmps53
  go_upto_region 3 with fail
  obtain ⟨W, hW, hBW, hWs, hW0⟩ := alloc1 w (.cells #[.int .u8 0, .int .u8 ((n : Int) / 16777216 % 256), .int .u8 ((n : Int) / 65536 % 256), .int .u8 ((n : Int) / 256 % 256), .int .u8 ((n : Int) % 256)] 107)
  rw [hW]
  have H5 := Lib.hid (show W.heap[w.heap.size]? = some (.cells (bytes (0 :: Num.num n 4)) 107 (0, 0)) by
    rw [hW0, HN4.out]
    have e1 := bv_nat (n / 16777216)
    have e2 := bv_nat (n / 65536)
    have e3 := bv_nat (n / 256)
    have e4 := bv_nat n
    simp only [bytes, List.map_cons, List.map_nil, e1, e2, e3, e4]
    rfl)
  have HBW := Lib.hid hBW
  have HWS := Lib.hid hWs
  clear hW hBW hWs hW0
  have hq := HM.out.1
  have hq2 := HM.out.2
  have hmk := HMK.out
  go_upto_region 4 with (go_at_call 52; refine (HTK.out _).mono ?_; rintro e W1 ⟨rfl, rfl⟩)
  clear hq hq2 hmk
  obtain ⟨V, hV, hBV, hVs, hV0⟩ := alloc1 W (.cells (bytes (List.replicate M (0 : BitVec 8))) 5)
  have hVV : W.alloc (.cells (bytes (List.replicate M 0#8)) 5) = V := hV
  rw [hVV]
  clear hVV hV
  have HV0 := Lib.hid hV0
  have H5V := Lib.hid ((hBV.block _ (by have := HWS.out; omega)).trans H5.out)
  have HBV := Lib.hid (HBW.out.trans (hBV.mono HBW.out.size))
  have HVS := Lib.hid hVs
  clear hV0 hBV hVs
  obtain ⟨L1, hL1⟩ : ∃ L1, splice (List.replicate M 0) 0 ((0 :: Num.num n 4).take M) = L1 := ⟨_, rfl⟩
  have HL1 := Lib.hid hL1
  have HL1l := Lib.hid (show L1.length = M by rw [← hL1, Dk.splice_length _ _ _ (by have := HMB.out; simp [Num.num_length]; omega)]; simp)
  go_upto_region 5 with (refine wpList_copy_b rfl (.tmp 24) (.tmp 25) 22 5 rfl Try.underlying22 (by kernel_rfl) W.heap.size 0 M M (.slice (some ⟨w.heap.size, 0, none⟩) 5 5) (0 :: Num.num n 4) rfl rfl (sl_row (0 :: Num.num n 4) H5V.out (by simp [Num.num_length]) (by simp [Num.num_length])) (List.replicate M 0) [] 5 (by rw [bytes_bcells]; exact HV0.out) (by simp) ?_; rw [HL1.out])
  rw [hL1] at HSP
  clear hL1 HL1
  obtain ⟨U, hU⟩ : ∃ U, V.setRow W.heap.size (bcells L1 ++ []).toArray = U := ⟨_, rfl⟩
  have HU0 := Lib.hid (show U.heap[W.heap.size]? = some (.cells (bcells L1 ++ []).toArray 5 (0, 0)) by rw [← hU]; exact setRow_heap _ _ _ _ _ _ HV0.out)
  have HBU := Lib.hid (show Below w.heap.size w U by rw [← hU]; exact HBV.out.trans (((Kept.refl [W.heap.size] V).setRow (by simp) _).toBelow (B := w.heap.size) (by have := HWS.out; simp; omega) HBV.out.size))
  have HSU := Lib.hid (show SlB U (.slice a n cap) t by have := HS.out U HBU.out; rw [HN.out] at this; exact this)
  rw [hU]
  clear hU
  have h5 : 5 < M := HMB.out.1
  have h6 : ¬ M = 5 := by omega
  have h5' : (5 : Int) ≤ M := by omega
  go_upto_region 6 with (refine wpList_copy_b rfl (.tmp 28) (.tmp 29) 22 5 rfl Try.underlying22 (by kernel_rfl) W.heap.size 5 (M - 5) (M - 5) (.slice a n cap) t rfl rfl HSU.out L1 [] 5 HU0.out (by rw [HL1l.out]; omega) ?_; rw [HSP.out])
  go_wp2
  go_ret
  refine ⟨_, rfl, ⟨W.heap.size, by rw [HLL.out]; rfl, by have := HBW.out.size; omega, ?_⟩, ?_⟩
  · have e := bytes_bcells R
    simp only [List.append_nil] at e ⊢
    rw [e]; exact setRow_heap _ _ _ _ _ _ HU0.out
  · exact HBU.out.trans (((Kept.refl [W.heap.size] U).setRow (by simp) _).toBelow (B := w.heap.size) (by have := HWS.out; simp; omega) HBU.out.size)
end Go.Proofs.Ytdnjjemdnlegdaa
namespace Go.Proofs.Ytdnjjemdnlegdaa
set_option linter.unusedVariables false
set_option linter.unusedSimpArgs false
open Go Go.RowKit
theorem SlL.block {w : World} {b : Nat} {t : TypeId} {fr : Nat × Nat} (vs : List Value) (h : w.heap[b]? = some (.cells vs.toArray t fr)) (n : Nat) (hn : n = vs.length) (hm : vs.length ≤ 1000) : SlL w (.slice (some ⟨b, 0, none⟩) n n) vs := by
  subst hn
  refine .inr ⟨b, 0, vs.length, rfl, Nat.le_refl _, by unfold maxLen; omega, (Array.getElem?_eq_some_iff.1 h).1, fun j hj => ?_⟩
  rw [cell_of_row w b (0 + j) _ _ _ h, Nat.zero_add]
  simp [hj]
theorem info_sl : (Try.prog.info? 22).map (fun i => (i.zero, i.size, i.bytes)) = some (some (.slice none 0 0), 1, 24) := by kernel_rfl
def OwnL (E base : Nat) (w : World) (v : Value) (vs : List Value) : Prop := w.ownsRow base E 1 v vs.length vs
theorem OwnL.nil (E base : Nat) (w : World) : OwnL E base w (.slice none 0 0) [] := World.ownsRow_nil _ _ _ _
theorem OwnL.sl {E base : Nat} {w : World} {v : Value} {vs : List Value} (h : OwnL E base w v vs) : SlL w v vs := by
  rcases h with ⟨h1, ⟨rfl, h2⟩ | ⟨g, cap, cur, rfl, hb, hg, hn, hm, hs, ht⟩⟩
  · exact .inl ⟨rfl, List.eq_nil_of_length_eq_zero h2⟩
  · refine .inr ⟨g, 0, cap, rfl, hn, hm, (Array.getElem?_eq_some_iff.1 hg).1, fun j hj => ?_⟩
    rw [cell_of_row w g (0 + j) cur E (0, 0) hg, Nat.zero_add]
    have h3 := congrArg (fun l => l[j]?) ht
    simp only [Nat.mul_one] at h3
    rw [List.getElem?_take_of_lt hj, Array.getElem?_toList] at h3
    rw [h3, List.getD, List.getElem?_eq_getElem hj]
    rfl
theorem OwnL.below {E base B : Nat} {w w' : World} {v : Value} {vs : List Value} (h : OwnL E base w v vs) (hb : Below B w w') (hB : w.heap.size ≤ B) : OwnL E base w' v vs := by
  refine ⟨h.1, ?_⟩
  rcases h.2 with hn | ⟨g, cap, cur, rfl, h1, hg, h2⟩
  · exact .inl hn
  · refine .inr ⟨g, cap, cur, rfl, h1, ?_, h2⟩
    rw [hb.block g (by have := (Array.getElem?_eq_some_iff.1 hg).1; omega)]
    exact hg
theorem OwnL.mono {E base base' : Nat} {w : World} {v : Value} {vs : List Value} (h : OwnL E base w v vs) (hB : base' ≤ base) : OwnL E base' w v vs := by
  refine ⟨h.1, ?_⟩
  rcases h.2 with hn | ⟨g, cap, cur, rfl, h1, hg⟩
  · exact .inl hn
  · exact .inr ⟨g, cap, cur, rfl, by omega, hg⟩
theorem OwnL.alloc {E base : Nat} {w : World} {v : Value} {vs : List Value} (h : OwnL E base w v vs) (o : Obj) : OwnL E base (w.alloc o) v vs := h.below ((Below.refl w.heap.size w).alloc (Nat.le_refl _) o) (Nat.le_refl _)
section
variable {P : Program}
/-- append(s, x...) onto a slice of slices of the call's own. -/
theorem wpList_append_l {ops : Array Oper} {rest : List Oper} {o : Oper} {a : Act} {w : World} {Q : Exit → Act → World → Prop} (hgd : o.guard = none) (s x : Operand) (T E : TypeId)
    (ho : o.op = .call { callee := .builtin .append, args := #[s, x], argTypes := #[T, T] }) (ht : P.underlying T = some (.slice E))
    (hi : (P.info? E).map (fun i => (i.zero, i.size, i.bytes)) = some (some (.slice none 0 0), 1, 24)) (base : Nat)
    (v : Value) (vs : List Value) (hown : OwnL E base w v vs) (hs : a.eval s = v) (u : Value) (ys : List Value) (hsl : SlL w u ys) (hone : ∀ y ∈ ys, y.oneCell' = true) (hx : a.eval x = u)
    (hlen : vs.length + ys.length ≤ 1000000) (hbase : base ≤ w.heap.size)
    (h : ∀ v' w', OwnL E base w' v' (vs ++ ys) → w.grownBy w' v.ownBlock → True → wpList P ops Q rest (a.put o.dst v') w') : wpList P ops Q (o :: rest) a w := by
  obtain ⟨i, hi0, hz, hsz, hby⟩ : ∃ i, P.info? E = some i ∧ i.zero = some (.slice none 0 0) ∧ i.size = 1 ∧ i.bytes = 24 := by
    cases h : P.info? E with
    | none => simp [h] at hi
    | some i => simp [h] at hi; exact ⟨i, rfl, hi⟩
  have hm : vs.length + ys.length ≤ maxLen := by unfold maxLen; omega
  rcases hsl with ⟨rfl, rfl⟩ | ⟨b, off, cap, rfl, h1, h2, h3, h4⟩
  · refine wpList_append_own_none hgd s x T ho base E i 1 ht hi0 v vs.length vs hs hown hx ?_
    exact h v w (by simpa using hown) ⟨rfl, rfl, rfl, Nat.le_refl _, fun _ _ _ => rfl⟩ trivial
  · refine wpList_append_own w hgd s x T ho base E i (.slice none 0 0) 1 24 ht hi0 hz hsz hby rfl (by decide) v vs.length vs hs hown ⟨b, off, none⟩ ys.length cap ys hx (by simp) ?_ hone hm (by omega) hbase ?_
    · intro j y hj
      have hlt : j < ys.length := (List.getElem?_eq_some_iff.1 hj).1
      have hadd : (⟨b, off, none⟩ : Addr).add j = ⟨b, off + j, none⟩ := by unfold Addr.add; split <;> simp_all
      rw [hadd, h4 j hlt, List.getD, hj]
      rfl
    · intro v' w' ho' hg' hn'
      refine h v' w' ?_ hg' trivial
      simpa [OwnL] using ho'
end
end Go.Proofs.Ytdnjjemdnlegdaa
namespace Go.Proofs.Ytdnjjemdnlegdaa
set_option linter.unusedVariables false
set_option linter.unusedSimpArgs false
open Go Go.RowKit

theorem OwnL.kept {E base : Nat} {l : List Nat} {w w' : World} {v : Value} {vs : List Value} (h : OwnL E base w v vs) (hk : Kept l w w') (hl : ∀ k, v.ownBlock = some k → k ∉ l) : OwnL E base w' v vs := by
  refine ⟨h.1, ?_⟩
  rcases h.2 with hn | ⟨g, cap, cur, rfl, h1, hb, h2⟩
  · exact .inl hn
  · refine .inr ⟨g, cap, cur, rfl, h1, ?_, h2⟩
    rw [hk.block g (Array.getElem?_eq_some_iff.1 hb).1 (hl g rfl)]
    exact hb

/-- The texts of a log: a slice of slices. l: blocks that they do not lie in. -/
structure Tx (w : World) (vt : Value) (ts : List (List (BitVec 8))) (vs : List Value) (l : List Nat) : Prop where
  own : OwnL 22 0 w vt vs
  len : vs.length = ts.length
  txt : ∀ i, i < ts.length → SlB w (vs.getD i undef) (ts.getD i [])
  apart : ∀ i, i < ts.length → ∀ k, (vs.getD i undef).ownBlock = some k → k ∉ l ∧ vt.ownBlock ≠ some k ∧ k < w.heap.size
  out : ∀ k, vt.ownBlock = some k → k ∉ l
theorem Tx.nil (w : World) (l : List Nat) : Tx w (.slice none 0 0) [] [] l := ⟨OwnL.nil _ _ _, rfl, fun i h => absurd h (Nat.not_lt_zero _), fun i h => absurd h (Nat.not_lt_zero _), fun k h => by simp [Value.ownBlock] at h⟩
theorem Tx.kept {w w' : World} {vt : Value} {ts : List (List (BitVec 8))} {vs : List Value} {l l' : List Nat} (h : Tx w vt ts vs l) (hk : Kept l' w w') (hl : ∀ k, k ∈ l' → k ∈ l) : Tx w' vt ts vs l :=
  ⟨h.own.kept hk fun k e hm => h.out k e (hl k hm), h.len, fun i hi => (h.txt i hi).keptV hk fun k e hm => (h.apart i hi k e).1 (hl k hm), fun i hi k e => ⟨(h.apart i hi k e).1, (h.apart i hi k e).2.1, Nat.lt_of_lt_of_le (h.apart i hi k e).2.2 hk.size⟩, h.out⟩

def lcells (p : Nat) (vt : Value) (l : Slo.L) : Array Value := #[.pointer (some ⟨p, 0, none⟩), .int .i64 (l.from_ : Nat), .int .i64 (l.sectors : Nat), vt, .int .i64 (l.used : Nat), .bool l.dead]
/-- The log l lies in block q, its disk in p and g. -/
structure LogAt (w : World) (q p g : Nat) (vt : Value) (vs : List Value) (l : Slo.L) : Prop where
  row : w.heap[q]? = some (.cells (lcells p vt l) 75 (0, 0))
  ne : q ≠ p ∧ q ≠ g
  tx : Tx w vt l.texts vs [p, g, q]
  small : l.from_ ≤ 16384 ∧ l.sectors ≤ 16384 ∧ l.used ≤ l.sectors ∧ l.texts.length ≤ l.used
section
variable {w : World} {q p g : Nat} {vt : Value} {vs : List Value} {l : Slo.L}
theorem LogAt.lt (h : LogAt w q p g vt vs l) : q < w.heap.size := (Array.getElem?_eq_some_iff.1 h.row).1
theorem LogAt.c0 (h : LogAt w q p g vt vs l) : w.cell? ⟨q, 0, none⟩ = some (.pointer (some ⟨p, 0, none⟩)) := cell_of_row w q 0 _ _ _ h.row
theorem LogAt.c1 (h : LogAt w q p g vt vs l) : w.cell? ⟨q, 1, none⟩ = some (.int .i64 (l.from_ : Nat)) := cell_of_row w q 1 _ _ _ h.row
theorem LogAt.c2 (h : LogAt w q p g vt vs l) : w.cell? ⟨q, 2, none⟩ = some (.int .i64 (l.sectors : Nat)) := cell_of_row w q 2 _ _ _ h.row
theorem LogAt.c3 (h : LogAt w q p g vt vs l) : w.cell? ⟨q, 3, none⟩ = some vt := cell_of_row w q 3 _ _ _ h.row
theorem LogAt.c4 (h : LogAt w q p g vt vs l) : w.cell? ⟨q, 4, none⟩ = some (.int .i64 (l.used : Nat)) := cell_of_row w q 4 _ _ _ h.row
theorem LogAt.c5 (h : LogAt w q p g vt vs l) : w.cell? ⟨q, 5, none⟩ = some (.bool l.dead) := cell_of_row w q 5 _ _ _ h.row
theorem LogAt.fr (h : LogAt w q p g vt vs l) (j : Nat) : w.frozen? ⟨q, j, none⟩ = false := frozen_of_row w q j _ _ h.row
theorem LogAt.keptD {w' : World} (h : LogAt w q p g vt vs l) (hk : Kept [p, g] w w') : LogAt w' q p g vt vs l :=
  ⟨(hk.block q h.lt (by simp [h.ne])).trans h.row, h.ne, h.tx.kept hk (by simp), h.small⟩
theorem LogAt.below {w' : World} {B : Nat} (h : LogAt w q p g vt vs l) (hb : Below B w w') (hB : w.heap.size ≤ B) : LogAt w' q p g vt vs l :=
  h.keptD (Kept.ofBelow hb hB)
theorem LogAt.setDead (h : LogAt w q p g vt vs l) (b : Bool) : LogAt (w.setCell ⟨q, 5, none⟩ (.bool b)) q p g vt vs { l with dead := b } :=
  ⟨heap_setCell_same w q 5 _ _ (.bool b) h.row, h.ne, h.tx.kept (l' := [q]) ((Kept.refl [q] w).setCell (by simp) _) (by simp), h.small⟩
end

theorem slo_is {w : World} {q p g : Nat} {vt : Value} {vs : List Value} {l : Slo.L} (h : LogAt w q p g vt vs l) : Calls Try.prog 51 #[.pointer (some ⟨q, 0, none⟩)] w fun e w' => e = .returned (.bool true) ∧ w = w' := by
  have c0 := h.c0
  clear h
  go_enter Try.func51, Try.ntmps51
  go_wp2
  go_ret
  exact ⟨rfl, rfl⟩
theorem slo_is_nil (w : World) : Calls Try.prog 51 #[.pointer none] w fun e w' => e = .returned (.bool false) ∧ w = w' := by
  go_enter Try.func51, Try.ntmps51
  go_wp2
  go_ret
  exact ⟨rfl, rfl⟩
theorem slo_is_zero (w : World) (q : Nat) (h : w.cell? ⟨q, 0, none⟩ = some (.pointer none)) : Calls Try.prog 51 #[.pointer (some ⟨q, 0, none⟩)] w fun e w' => e = .returned (.bool false) ∧ w = w' := by
  go_enter Try.func51, Try.ntmps51
  go_wp2
  go_ret
  exact ⟨rfl, rfl⟩
theorem slo_used {w : World} {q p g : Nat} {vt : Value} {vs : List Value} {l : Slo.L} (h : LogAt w q p g vt vs l) : Calls Try.prog 34 #[.pointer (some ⟨q, 0, none⟩)] w fun e w' => e = .returned (.int .i64 (l.used : Nat)) ∧ w = w' := by
  have c4 := h.c4
  have HI := Lib.hid (slo_is h)
  clear h
  go_enter Try.func34, Try.ntmps34
  go_wp2_with (go_at_call 51; refine HI.out.mono ?_; rintro e w' ⟨rfl, rfl⟩)
  go_ret
  exact ⟨rfl, rfl⟩
theorem slo_used_no {v : Value} {w : World} (h : Calls Try.prog 51 #[v] w fun e w' => e = .returned (.bool false) ∧ w = w') : Calls Try.prog 34 #[v] w fun e w' => e = .returned (.int .i64 0) ∧ w = w' := by
  have HI := Lib.hid h
  clear h
  go_enter Try.func34, Try.ntmps34
  go_wp2_with (go_at_call 51; refine HI.out.mono ?_; rintro e w' ⟨rfl, rfl⟩)
  go_ret
  exact ⟨rfl, rfl⟩
theorem slo_room_no {v : Value} {w : World} (h : Calls Try.prog 51 #[v] w fun e w' => e = .returned (.bool false) ∧ w = w') : Calls Try.prog 39 #[v] w fun e w' => e = .returned (.int .i64 0) ∧ w = w' := by
  have HI := Lib.hid h
  clear h
  go_enter Try.func39, Try.ntmps39
  go_wp2_with (go_at_call 51; refine HI.out.mono ?_; rintro e w' ⟨rfl, rfl⟩)
  go_ret
  exact ⟨rfl, rfl⟩
theorem slo_all_no {v : Value} {w : World} (h : Calls Try.prog 51 #[v] w fun e w' => e = .returned (.bool false) ∧ w = w') : Calls Try.prog 32 #[v] w fun e w' => e = .returned (.slice none 0 0) ∧ w = w' := by
  have HI := Lib.hid h
  clear h
  go_enter Try.func32, Try.ntmps32
  go_wp2_with (go_at_call 51; refine HI.out.mono ?_; rintro e w' ⟨rfl, rfl⟩)
  go_ret
  exact ⟨rfl, rfl⟩
theorem slo_append_no {v u : Value} {w : World} (h : Calls Try.prog 51 #[v] w fun e w' => e = .returned (.bool false) ∧ w = w') : Calls Try.prog 30 #[v, u] w fun e w' => e = .returned (.int .i64 1) ∧ w = w' := by
  have HI := Lib.hid h
  clear h
  go_enter Try.func30, Try.ntmps30
  go_wp2_with (go_at_call 51; refine HI.out.mono ?_; rintro e w' ⟨rfl, rfl⟩)
  go_ret
  exact ⟨rfl, rfl⟩
theorem slo_room {w : World} {q p g : Nat} {vt : Value} {vs : List Value} {l : Slo.L} (h : LogAt w q p g vt vs l) : Calls Try.prog 39 #[.pointer (some ⟨q, 0, none⟩)] w fun e w' => e = .returned (.int .i64 (Slo.room l)) ∧ ∃ n, w' = w.drewN n := by
  have c2 := h.c2
  have c4 := h.c4
  have hs := h.small
  have HI := Lib.hid (slo_is h)
  obtain ⟨A, hA⟩ : ∃ A, l.sectors = A := ⟨_, rfl⟩
  obtain ⟨B, hB⟩ : ∃ B, l.used = B := ⟨_, rfl⟩
  have HR := Lib.hid (show max (-1) (min (262144 : Int) (((A : Int) - B) * 128 - 5)) = Slo.room l by unfold Slo.room; rw [hA, hB]; congr 2; omega)
  rw [hA] at c2 hs
  rw [hB] at c4 hs
  have q1 : IntKind.i64.wrap ((A : Int) - B) = A - B := by rw [IntKind.wrap_i64]; omega
  have q2 : IntKind.i64.wrap (((A : Int) - B) * 128) = (A - B) * 128 := by rw [IntKind.wrap_i64]; omega
  have q3 : IntKind.i64.wrap (((A : Int) - B) * 128 - 5) = (A - B) * 128 - 5 := by rw [IntKind.wrap_i64]; omega
  have h1 : (A : Int) ≤ 16384 := by omega
  have h2 : (B : Int) ≤ A := by omega
  clear h hs hA hB
  go_enter Try.func39, Try.ntmps39
  go_wp2_with (go_at_call 51; refine HI.out.mono ?_; rintro e w' ⟨rfl, rfl⟩)
  go_quiet (fail)
  go_wp2
  all_goals
    go_ret
    refine ⟨?_, _, rfl⟩
    rw [← HR.out]
    show Ending.returned (.int .i64 _) = Ending.returned (.int .i64 _)
    congr 2
    omega

set_option maxRecDepth 100000 in
set_option maxHeartbeats 8000000 in
/-- What write tells and does. -/
theorem slo_write {w : World} {q p g : Nat} {vt : Value} {vs : List Value} {l : Slo.L} {d : Dk.D} (h : LogAt w q p g vt vs l) (hD : DiskAt w p g d) (v : Value) (xs : List (BitVec 8)) (hs : SlB w v xs) (hl : xs.length ≤ 1000000000) (hap : Apart v xs [g, p]) :
    Calls Try.prog 54 #[.pointer (some ⟨q, 0, none⟩), v] w fun e w' =>
      e = .returned (.int .i64 (Dk.write d ((l.from_ + l.used : Nat) : Int) xs).2) ∧ DiskAt w' p g (Dk.write d ((l.from_ + l.used : Nat) : Int) xs).1 ∧
      LogAt w' q p g vt vs { l with dead := l.dead || decide ((Dk.write d ((l.from_ + l.used : Nat) : Int) xs).2 ≠ 0) } ∧ Kept [p, g, q] w w' := by
  have c0 := h.c0
  have c1 := h.c1
  have c4 := h.c4
  have hsm := h.small
  have H := Lib.hid h
  have hn := h.ne
  have HW := Lib.hid (dk_write hD.drew ((l.from_ + l.used : Nat) : Int) v xs hs.drew hl hap (by omega) (by omega))
  obtain ⟨A, hA⟩ : ∃ A, l.from_ = A := ⟨_, rfl⟩
  obtain ⟨B, hB⟩ : ∃ B, l.used = B := ⟨_, rfl⟩
  rw [hA, hB] at HW
  rw [hA] at c1 hsm ⊢
  rw [hB] at c4 hsm ⊢
  have q1 : IntKind.i64.wrap ((A : Int) + B) = ((A + B : Nat) : Int) := by rw [IntKind.wrap_i64]; omega
  have HA := Lib.hid hA
  have HB := Lib.hid hB
  generalize Dk.write d ((A + B : Nat) : Int) xs = R at HW ⊢
  obtain ⟨R1, R2⟩ := R
  have hlt := h.lt
  have hp := hD.ltp
  have hg := hD.ltg
  clear h hs hA hB hap hD
  go_enter Try.func54, Try.ntmps54
  go_upto_region 1 with fail
  go_cut [5] (fun s wx => s = .int .i64 R2 ∧ Hid (DiskAt wx p g R1) ∧ Hid (Kept [p, g] w wx))
  case first =>
    go_region_with (go_at_call 19; refine HW.out.mono ?_; rintro e w' ⟨rfl, hD, hK⟩; have HD := Lib.hid hD; have HK := Lib.hid hK; clear hD hK)
    all_goals (go_wp2_with fail; go_meet)
    all_goals exact ⟨rfl, HD, HK⟩
  case rest =>
    obtain ⟨rfl, HD, HK⟩ := hcut
    have HL := Lib.hid (H.out.keptD HK.out)
    have c5 := HL.out.c5
    have f5 := HL.out.fr 5
    obtain ⟨D, hD⟩ : ∃ D, l.dead = D := ⟨_, rfl⟩
    rw [hD] at c5
    have HDD := Lib.hid hD
    clear hD c0 c1 c4 HW H
    cases D
    · go_wp2
      go_ret
      refine ⟨rfl, HD.out.kept ((Kept.refl [q] wc).setCell (by simp) _) (by simp; omega) (by simp; omega), ?_, (HK.out.mono (by simp)).trans ((Kept.refl [p, g, q] wc).setCell (by simp) _)⟩
      have h3 := HL.out.setDead (decide (R2 ≠ 0))
      rw [HDD.out, ← HA.out, ← HB.out, show (R2 != 0) = decide (R2 ≠ 0) by by_cases h : R2 = 0 <;> simp [h]]
      simpa using h3
    · go_wp2
      go_ret
      refine ⟨rfl, HD.out.kept ((Kept.refl [q] wc).setCell (by simp) _) (by simp; omega) (by simp; omega), ?_, (HK.out.mono (by simp)).trans ((Kept.refl [p, g, q] wc).setCell (by simp) _)⟩
      have h3 := HL.out.setDead true
      rw [HDD.out, ← HA.out, ← HB.out]
      simpa using h3
end Go.Proofs.Ytdnjjemdnlegdaa
namespace Go.Proofs.Ytdnjjemdnlegdaa
set_option linter.unusedVariables false
set_option linter.unusedSimpArgs false
open Go Go.RowKit
section
variable {P : Program}
/-- A guarded operation that is wanted, in a plain region, by a law on operations without a guard. -/
theorem wpList_unguard {ops : Array Oper} {rest : List Oper} {o : Oper} {a : Act} {w : World} {Q : Exit → Act → World → Prop} (hw : Region.wanted o (yielded ops a.tmps) = true)
    (h : wpList P ops Q ({ o with guard := none } :: rest) a w) : wpList P ops Q (o :: rest) a w := by
  unfold wpList at h ⊢
  rw [if_pos (by simp [Region.wanted])] at h
  rw [if_pos hw]
  exact h
theorem OwnB.appended {E base : Nat} {T ty : TypeId} {w w' : World} {v v' : Value} {xs ys : List (BitVec 8)} {ad : Addr} {c : Nat} (ht : P.underlying T = some (.slice E))
    (hi : (P.info? E).map (fun i => (i.zero, i.size, i.bytes)) = some (some (.int .u8 0), 1, 1)) (hown : OwnB E base w v xs) (hnews : ∀ j u, (bcells ys)[j]? = some u → w.cell? (ad.add j) = some u)
    (hlen : xs.length + ys.length ≤ 1000000000) (hr : (Builtin.append_ #[T, T] ty #[v, .slice (some ad) ys.length c]).run P w = .ok v' w') : OwnB E base w' v xs := by
  obtain ⟨i, hi0, hz, hsz, hby⟩ := info_parts hi
  have hn : (bcells ys).length = ys.length * i.size := by rw [bcells_length, hsz, Nat.mul_one]
  rcases hown.2 with ⟨rfl, hx0⟩ | ⟨g, cap, cur, rfl, hbg, hg, hnc, hcm, hcs, htake⟩
  · exact ⟨hown.1, .inl ⟨rfl, hx0⟩⟩
  · by_cases hroom : xs.length + ys.length ≤ cap
    · have hfit : xs.length * i.size + (bcells ys).length ≤ cur.size := by rw [bcells_length, hsz, hcs]; omega
      have h2 := run_append_room (P := P) w T ty E i ht hi0 g xs.length cap cur hg ad ys.length c (bcells ys) hn hnews (bcells_one ys) hroom hfit
      have e := hr.symm.trans h2
      obtain ⟨_, rfl⟩ : _ ∧ w' = _ := by simpa using e
      refine ⟨hown.1, .inr ⟨g, cap, _, rfl, hbg, setRow_heap w g cur _ E _ hg, hnc, hcm, ?_, ?_⟩⟩
      · simp only [List.size_toArray, List.length_append, List.length_take, List.length_drop, Array.length_toList]
        omega
      · simp only [Nat.mul_one] at htake
        simp only [hsz, Nat.mul_one]
        rw [htake]
        exact List.take_left' (bcells_length xs)
    · have hol : (bcells xs).length = xs.length * i.size := by rw [bcells_length, hsz, Nat.mul_one]
      have holds : ∀ j u, (bcells xs)[j]? = some u → w.cell? ((⟨g, 0, none⟩ : Addr).add j) = some u := World.ownsRow.cells hown (g := g) rfl
      have h2 := run_append_grow (P := P) w T ty E i (.int .u8 0) ht hi0 hz ⟨g, 0, none⟩ xs.length cap (bcells xs) hol holds ad ys.length c (bcells ys) hn hnews (by omega) (by omega) (growslice_fits (by omega) (by rw [hby]; omega))
      have e := hr.symm.trans h2
      obtain ⟨_, rfl⟩ : _ ∧ w' = _ := by simpa using e
      exact hown.grown (row := none) ⟨rfl, rfl, rfl, by simp, fun k hk _ => Below.heap_alloc w.drew _ k hk⟩ (by simp [Value.ownBlock])
/-- append(s, x...): the new slice, and the old one. -/
theorem wpList_append_b2 {ops : Array Oper} {rest : List Oper} {o : Oper} {a : Act} {w : World} {Q : Exit → Act → World → Prop} (hgd : o.guard = none) (s x : Operand) (T E : TypeId)
    (ho : o.op = .call { callee := .builtin .append, args := #[s, x], argTypes := #[T, T] }) (ht : P.underlying T = some (.slice E))
    (hi : (P.info? E).map (fun i => (i.zero, i.size, i.bytes)) = some (some (.int .u8 0), 1, 1)) (base : Nat)
    (v : Value) (xs : List (BitVec 8)) (hown : OwnB E base w v xs) (hs : a.eval s = v) (u : Value) (ys : List (BitVec 8)) (hsl : SlB w u ys) (h0 : 0 < ys.length) (hx : a.eval x = u)
    (hlen : xs.length + ys.length ≤ 1000000000) (hbase : base ≤ w.heap.size)
    (h : ∀ v' w', OwnB E base w' v' (xs ++ ys) → w.grownBy w' v.ownBlock → OwnB E base w' v xs → wpList P ops Q rest (a.put o.dst v') w') : wpList P ops Q (o :: rest) a w := by
  obtain ⟨i, hi0, hz, hsz, hby⟩ := info_parts hi
  rcases hsl with ⟨⟨ad, rfl⟩, rfl⟩ | ⟨b, off, cap, rfl, h1, h2, h3, h4⟩
  · simp at h0
  · have hnews : ∀ j u, (bcells ys)[j]? = some u → w.cell? ((⟨b, off, none⟩ : Addr).add j) = some u := by
      intro j y hj
      have hlt : j < ys.length := by
        rw [← bcells_length]
        exact (List.getElem?_eq_some_iff.1 hj).1
      rw [bcells_get? ys j hlt] at hj
      obtain rfl : byteV (ys.getD j 0) = y := by simpa using hj
      have hadd : (⟨b, off, none⟩ : Addr).add j = ⟨b, off + j, none⟩ := by unfold Addr.add; split <;> simp_all
      rw [hadd]
      exact h4 j hlt
    obtain ⟨v', w', hr, how, hg, _⟩ := run_append_own (P := P) w base T o.type E i (.int .u8 0) 1 1 ht hi0 hz hsz hby rfl (by decide) v xs.length (bcells xs) hown ⟨b, off, none⟩ ys.length cap (bcells ys) (by simp [bcells]) hnews (bcells_one ys) (by unfold maxLen; omega) (by omega) hbase
    refine Lib.wpList_append_run w hgd s x T T ho _ _ hs hx v' w' hr (h v' w' (by simpa [OwnB, bcells_append] using how) hg (hown.appended ht hi hnews hlen hr))
end
end Go.Proofs.Ytdnjjemdnlegdaa
namespace Go.Proofs.Ytdnjjemdnlegdaa
set_option linter.unusedVariables false
set_option linter.unusedSimpArgs false
open Go Go.RowKit
section
variable {P : Program}
theorem zeroCells_u8 (n : Nat) : Builtin.zeroCells #[.int .u8 0] n = (bcells (List.replicate n 0)).toArray := by
  apply Array.ext'
  apply List.ext_getElem?
  intro j
  simp only [Builtin.zeroCells, bcells, List.map_replicate]
  by_cases hj : j < n
  · simp [hj, byteV, bv, Nat.mod_one]
  · simp [hj]

theorem run_append_own_zeros {E base : Nat} {T tn ty : TypeId} {w : World} {v : Value} {xs : List (BitVec 8)} (ht : P.underlying T = some (.slice E)) (htn : P.underlying tn = some (.int .i64))
    (hi : (P.info? E).map (fun i => (i.zero, i.size, i.bytes)) = some (some (.int .u8 0), 1, 1)) (hown : OwnB E base w v xs) (hx : 0 < xs.length) (n : Nat) (h0 : 0 < n) (hlen : xs.length + n ≤ 1000000000) (hbase : base ≤ w.heap.size) :
    ∃ v' w', (Builtin.append_ #[T, tn] ty #[v, .int .i64 (n : Int)]).run P w = .ok v' w' ∧ OwnB E base w' v' (xs ++ List.replicate n 0) ∧ w.grownBy w' v.ownBlock := by
  obtain ⟨i, hi0, hz, hsz, hby⟩ := info_parts hi
  have hn : n ≠ 0 := by omega
  have hw : IntKind.i64.wrap (n : Int) = n := by rw [IntKind.wrap_i64]; omega
  have hneg : ¬ ((n : Int) < 0) := by omega
  have h48i : ¬ (281474976710656 < (n : Int)) := by omega
  have hl2 : (xs ++ List.replicate n (0 : BitVec 8)).length = xs.length + n := by simp
  have hbx : bcells (xs ++ List.replicate n 0) = bcells xs ++ bcells (List.replicate n 0) := bcells_append _ _
  have hZ1 := bcells_one (List.replicate n 0)
  have hZl : (bcells (List.replicate n 0)).length = n := by simp [bcells_length]
  have hzc : Builtin.zeroCells (Value.int .u8 0).cells n = (bcells (List.replicate n 0)).toArray := zeroCells_u8 n
  rw [show OwnB E base = fun w' v' ys => w'.ownsRow base E 1 v' ys.length (bcells ys) from rfl]
  simp only [hl2, hbx]
  generalize bcells (List.replicate n 0) = Z at hZ1 hZl hzc
  clear hbx
  rcases hown.2 with ⟨rfl, hx0⟩ | ⟨g, cap, cur, rfl, hbg, hg, hnc, hcm, hcs, htake⟩
  · omega
  · by_cases hroom : xs.length + n ≤ cap
    · have hst := run_storeCells_at P g xs.length E Z 0 cur w hg (by rw [hZl, hcs]; omega) hZ1
      simp only [Nat.add_zero] at hst
      refine ⟨.slice (some ⟨g, 0, none⟩) (xs.length + n) cap, w.setRow g (cur.toList.take xs.length ++ Z ++ cur.toList.drop (xs.length + Z.length)).toArray, ?_, ?_, ?_⟩
      · simp [Builtin.append_, run_underlying ht, run_underlying htn, sizeOf, typeInfo, zeroValue, hi0, hz, hsz, hby, asInt, asIntOf, hw, hn, hneg, h48i, hroom, Addr.add_lit, hst, hzc]
      · refine ⟨by simp [bcells_length, hZl], .inr ⟨g, cap, _, rfl, hbg, setRow_heap w g cur _ E _ hg, by omega, hcm, ?_, ?_⟩⟩
        · simp only [List.size_toArray, List.length_append, List.length_take, List.length_drop, Array.length_toList, hZl]
          omega
        · simp only [Nat.mul_one] at htake
          rw [htake, Nat.mul_one]
          exact List.take_left' (by simp [bcells_length, hZl])
      · exact ⟨rfl, rfl, rfl, by simp, fun k _ hk => setRow_other w g k _ (fun e => hk (by simp [Value.ownBlock, e]))⟩
    · have hol : (bcells xs).length = xs.length * i.size := by rw [bcells_length, hsz, Nat.mul_one]
      have holds : ∀ j u, (bcells xs)[j]? = some u → w.cell? ((⟨g, 0, none⟩ : Addr).add j) = some u := World.ownsRow.cells hown (g := g) rfl
      have hfo := run_firstCells_some (P := P) w.drew i.size xs.length ⟨g, 0, none⟩ xs.length cap (bcells xs) hol (by simpa using holds)
      rw [hsz] at hfo
      have hfit := growslice_fits (old := cap) (need := xs.length + n) (bytes := 1) (by omega) (by omega)
      have hge := grownCap_ge w (xs.length + n) cap E
      have hcm2 : grownCap w (xs.length + n) cap E ≤ maxLen := grownCap_le_maxLen w (xs.length + n) cap E (by unfold maxLen; omega)
      have h63' : ¬ (9223372036854775807 < ((xs.length : Int) + (n : Int))) := by omega
      have h48' : ¬ (281474976710656 < Builtin.nextslicecap (xs.length + n) cap) := by omega
      refine ⟨.slice (some ⟨w.heap.size, 0, none⟩) (xs.length + n) (grownCap w (xs.length + n) cap E), w.drew.alloc (.cells ((bcells xs).toArray ++ Z.toArray ++ Builtin.zeroCells (Value.int .u8 0).cells (grownCap w (xs.length + n) cap E - (xs.length + n))) E), ?_, ?_, ?_⟩
      · simp [Builtin.append_, run_underlying ht, run_underlying htn, sizeOf, typeInfo, zeroValue, hi0, hz, hsz, hby, asInt, asIntOf, hw, hn, hneg, h48i, hroom, h63', h48', Question.forced, hfo, hzc, newRow, grownCap]
        congr 2
        apply Array.ext'
        simp [List.append_assoc]
      · refine ⟨by simp [bcells_length, hZl], .inr ⟨w.heap.size, _, _, rfl, hbase, heap_alloc_new w.drew _, by omega, hcm2, ?_, ?_⟩⟩
        · simp only [Array.size_append, List.size_toArray, size_zeroCells, hZl, bcells_length, show (Value.int .u8 0).cells.size = 1 from rfl]; omega
        · rw [Nat.mul_one]
          simp only [Array.toList_append]
          exact List.take_left' (by simp [bcells_length, hZl])
      · exact ⟨rfl, rfl, rfl, by simp, fun k hk _ => Below.heap_alloc w.drew _ k hk⟩

/-- append(s, make([]byte, n)...). -/
theorem wpList_append_z {ops : Array Oper} {rest : List Oper} {o : Oper} {a : Act} {w : World} {Q : Exit → Act → World → Prop} (hgd : o.guard = none) (s x : Operand) (T tn E : TypeId)
    (ho : o.op = .call { callee := .builtin .append, args := #[s, x], argTypes := #[T, tn] }) (ht : P.underlying T = some (.slice E)) (htn : P.underlying tn = some (.int .i64))
    (hi : (P.info? E).map (fun i => (i.zero, i.size, i.bytes)) = some (some (.int .u8 0), 1, 1)) (base : Nat)
    (v : Value) (xs : List (BitVec 8)) (hown : OwnB E base w v xs) (hx0 : 0 < xs.length) (hs : a.eval s = v) (n : Nat) (h0 : 0 < n) (hx : a.eval x = .int .i64 (n : Int))
    (hlen : xs.length + n ≤ 1000000000) (hbase : base ≤ w.heap.size)
    (h : ∀ v' w', OwnB E base w' v' (xs ++ List.replicate n 0) → w.grownBy w' v.ownBlock → wpList P ops Q rest (a.put o.dst v') w') : wpList P ops Q (o :: rest) a w := by
  obtain ⟨v', w', hr, h1, h2⟩ := run_append_own_zeros (P := P) (ty := o.type) ht htn hi hown hx0 n h0 hlen hbase
  exact Lib.wpList_append_run w hgd s x T tn ho v (.int .i64 (n : Int)) hs hx v' w' hr (h v' w' h1 h2)
end
end Go.Proofs.Ytdnjjemdnlegdaa
namespace Go.Proofs.Ytdnjjemdnlegdaa
set_option linter.unusedVariables false
set_option linter.unusedSimpArgs false
open Go Go.RowKit
section
variable {w : World} {q p g : Nat} {vt : Value} {vs : List Value} {l : Slo.L} {d : Dk.D}

theorem slo_append_off (h : LogAt w q p g vt vs l) (hD : DiskAt w p g d) (v : Value) (ho : (l.dead || d.off) = true) :
    Calls Try.prog 30 #[.pointer (some ⟨q, 0, none⟩), v] w fun e w' => e = .returned (.int .i64 12) ∧ w = w' := by
  have c0 := h.c0
  have c5 := h.c5
  have HI := Lib.hid (slo_is h)
  have HO := Lib.hid (dk_off hD)
  generalize l.dead = D at c5 ho
  generalize d.off = O at HO ho
  clear h hD
  cases D
  · obtain rfl : O = true := by simpa using ho
    clear ho
    go_enter Try.func30, Try.ntmps30
    go_wp2_with (first
      | (go_at_call 51; refine HI.out.mono ?_; rintro e w' ⟨rfl, rfl⟩)
      | (go_at_call 20; refine HO.out.mono ?_; rintro e w' ⟨rfl, rfl⟩))
    go_ret
    exact ⟨rfl, rfl⟩
  · clear ho
    go_enter Try.func30, Try.ntmps30
    go_wp2_with (go_at_call 51; refine HI.out.mono ?_; rintro e w' ⟨rfl, rfl⟩)
    go_ret
    exact ⟨rfl, rfl⟩
theorem slo_append_long (h : LogAt w q p g vt vs l) (hD : DiskAt w p g d) (a : Option Addr) (n cap : Nat) (hd : l.dead = false) (ho : d.off = false) (hn : 262144 < n) :
    Calls Try.prog 30 #[.pointer (some ⟨q, 0, none⟩), .slice a n cap] w fun e w' => e = .returned (.int .i64 3) ∧ w = w' := by
  have c0 := h.c0
  have c5 := h.c5
  have HI := Lib.hid (slo_is h)
  have HO := Lib.hid (dk_off hD)
  rw [hd] at c5
  rw [ho] at HO
  have h1 : (262144 : Int) < n := by omega
  clear h hD hd ho hn
  go_enter Try.func30, Try.ntmps30
  go_wp2_with (first
    | (go_at_call 51; refine HI.out.mono ?_; rintro e w' ⟨rfl, rfl⟩)
    | (go_at_call 20; refine HO.out.mono ?_; rintro e w' ⟨rfl, rfl⟩))
  go_ret
  exact ⟨rfl, rfl⟩
set_option maxRecDepth 100000 in
set_option maxHeartbeats 1000000 in
theorem slo_append_full (h : LogAt w q p g vt vs l) (hD : DiskAt w p g d) (a : Option Addr) (n cap : Nat) (hd : l.dead = false) (ho : d.off = false) (hn : n ≤ 262144) (hf : l.sectors - l.used < Slo.taken n) :
    Calls Try.prog 30 #[.pointer (some ⟨q, 0, none⟩), .slice a n cap] w fun e w' => e = .returned (.int .i64 7) ∧ ∃ m, w' = w.drewN m := by
  have c0 := h.c0
  have c2 := h.c2
  have c4 := h.c4
  have c5 := h.c5
  have hs := h.small
  have HI := Lib.hid (slo_is h)
  have HO := Lib.hid (dk_off hD)
  have HTK := Lib.hid (fun w => (taken_any n (by omega) w).mono (fun e w' (h : _ ∧ w = w') => And.intro h.1 h.2.symm))
  rw [hd] at c5
  rw [ho] at HO
  generalize Slo.taken n = tk at HTK hf
  generalize l.sectors = S at c2 hf hs
  generalize l.used = U at c4 hf hs
  have q1 : IntKind.i64.wrap ((S : Int) - U) = S - U := by rw [IntKind.wrap_i64]; omega
  have h1 : (n : Int) ≤ 262144 := by omega
  have h2 : (S : Int) - U < tk := by omega
  clear h hD hd ho hn hs hf
  go_enter Try.func30, Try.ntmps30
  go_wp2_with (first
    | (go_at_call 51; refine HI.out.mono ?_; rintro e w' ⟨rfl, rfl⟩)
    | (go_at_call 20; refine HO.out.mono ?_; rintro e w' ⟨rfl, rfl⟩))
  go_quiet ((go_at_call 52; with_reducible exact Calls.quiet_of_same (HTK.out _)))
  go_wp2
  go_ret
  exact ⟨rfl, _, rfl⟩
end
end Go.Proofs.Ytdnjjemdnlegdaa
namespace Go.Proofs.Ytdnjjemdnlegdaa
set_option linter.unusedVariables false
set_option linter.unusedSimpArgs false
open Go Go.RowKit
section
variable {P : Program}
/-- append(s, x), x a slice, onto a slice of slices: and where it lies. -/
theorem wpList_append_l1 {ops : Array Oper} {rest : List Oper} {o : Oper} {a : Act} {w : World} {Q : Exit → Act → World → Prop} (hgd : o.guard = none) (s x : Operand) (T E : TypeId)
    (ho : o.op = .call { callee := .builtin .append, args := #[s, x], argTypes := #[T, T] }) (ht : P.underlying T = some (.slice E))
    (hi : (P.info? E).map (fun i => (i.zero, i.size, i.bytes)) = some (some (.slice none 0 0), 1, 24)) (v : Value) (vs : List Value) (hown : OwnL E 0 w v vs) (hs : a.eval s = v) (b : Nat) (u : Value) (hx : a.eval x = .slice (some ⟨b, 0, none⟩) 1 1)
    (hc : w.cell? ⟨b, 0, none⟩ = some u) (hone : u.oneCell' = true) (hlen : vs.length ≤ 1000000)
    (h : ∀ v' w', OwnL E 0 w' v' (vs ++ [u]) → w.grownBy w' v.ownBlock → (v'.ownBlock = v.ownBlock ∨ v'.ownBlock = some w.heap.size) → wpList P ops Q rest (a.put o.dst v') w') : wpList P ops Q (o :: rest) a w := by
  obtain ⟨i, hi0, hz, hsz, hby⟩ : ∃ i, P.info? E = some i ∧ i.zero = some (.slice none 0 0) ∧ i.size = 1 ∧ i.bytes = 24 := by
    cases h : P.info? E with
    | none => simp [h] at hi
    | some i => simp [h] at hi; exact ⟨i, rfl, hi⟩
  refine wpList_append_own_at w hgd s x T ho 0 E i (.slice none 0 0) 1 24 ht hi0 hz hsz hby rfl (by decide) v vs.length vs hs hown ⟨b, 0, none⟩ 1 1 [u] hx rfl ?_ (by simpa using hone) (by unfold maxLen; omega) (by omega) (Nat.zero_le _) ?_
  · intro j y hj
    match j, hj with
    | 0, hj =>
      obtain rfl : u = y := by simpa using hj
      simpa [Addr.add] using hc
  · intro v' w' h1 h2 _ h4
    exact h v' w' (by simpa [OwnL] using h1) h2 h4
end
theorem OwnL.form1 {E base : Nat} {w : World} {v u : Value} {vs : List Value} (h : OwnL E base w v (vs ++ [u])) : ∃ g cap, v = .slice (some ⟨g, 0, none⟩) (vs.length + 1) cap := by
  rcases h.2 with ⟨_, h2⟩ | ⟨g, cap, cur, e, _⟩
  · simp at h2
  · exact ⟨g, cap, by simpa using e⟩
/-- One more text: u, new, in a block from B on; the slice lies where it lay, or anew. -/
theorem Tx.append {w w' : World} {vt v' u : Value} {ts : List (List (BitVec 8))} {t : List (BitVec 8)} {vs : List Value} {p g q B : Nat} (h : Tx w vt ts vs [p, g, q]) (hlt : p < w.heap.size ∧ g < w.heap.size ∧ q < w.heap.size) (hk : Kept ([q] ++ vt.ownBlock.toList) w w')
    (hown : OwnL 22 0 w' v' (vs ++ [u])) (hu : SlB w' u t) (hub : ∀ k, u.ownBlock = some k → w.heap.size ≤ k ∧ k < B) (hB : w.heap.size ≤ B) (hB' : B ≤ w'.heap.size) (hat : v'.ownBlock = vt.ownBlock ∨ v'.ownBlock = some B) : Tx w' v' (ts ++ [t]) (vs ++ [u]) [p, g, q] := by
  have hvl : ∀ k, vt.ownBlock = some k → k < w.heap.size := fun k e => (World.ownsRow.lt h.own k e).2
  have hin : ∀ i, i < ts.length → (vs ++ [u]).getD i undef = vs.getD i undef ∧ (ts ++ [t]).getD i [] = ts.getD i [] := fun i hi => by
    have := h.len
    simp only [List.getD]
    rw [List.getElem?_append_left (by omega), List.getElem?_append_left hi]
    exact ⟨rfl, rfl⟩
  have hla : (vs ++ [u]).getD ts.length undef = u ∧ (ts ++ [t]).getD ts.length [] = t := by
    have := h.len
    simp only [List.getD]
    rw [List.getElem?_append_right (by omega), List.getElem?_append_right (by omega)]
    simp [h.len]
  have hsp : ∀ i, i < (ts ++ [t]).length → i < ts.length ∨ i = ts.length := fun i hi => by simp at hi; omega
  have hvk : ∀ k, v'.ownBlock = some k → vt.ownBlock = some k ∨ k = B := fun k e => by
    rcases hat with h1 | h1
    · exact .inl (h1 ▸ e)
    · exact .inr (by rw [h1] at e; simpa using e.symm)
  refine ⟨hown, by simp [h.len], fun i hi => ?_, fun i hi k hk' => ?_, fun k e => ?_⟩
  · rcases hsp i hi with h1 | rfl
    · rw [(hin i h1).1, (hin i h1).2]
      refine (h.txt i h1).keptV hk fun k e hm => ?_
      obtain ⟨a1, a2, _⟩ := h.apart i h1 k e
      simp only [List.mem_append, List.mem_singleton, Option.mem_toList] at hm
      rcases hm with rfl | hm
      · exact a1 (by simp)
      · exact a2 hm
    · rw [hla.1, hla.2]
      exact hu
  · rcases hsp i hi with h1 | rfl
    · rw [(hin i h1).1] at hk'
      obtain ⟨a1, a2, a3⟩ := h.apart i h1 k hk'
      refine ⟨a1, fun e => ?_, Nat.lt_of_lt_of_le a3 hk.size⟩
      rcases hvk k e with e2 | rfl
      · exact a2 e2
      · omega
    · rw [hla.1] at hk'
      obtain ⟨b1, b2⟩ := hub k hk'
      refine ⟨by simp; omega, fun e => ?_, ?_⟩
      · rcases hvk k e with e2 | rfl
        · have := hvl k e2; omega
        · omega
      · exact Nat.lt_of_lt_of_le b2 hB'
  · rcases hvk k e with e2 | rfl
    · exact h.out k e2
    · simp; omega
section
variable {wc wd w2 : World} {vt v2 u : Value} {vs : List Value} {o : Obj} {p g q : Nat} {l : Slo.L} {t : List (BitVec 8)}
theorem app_kept (hb : Below wc.heap.size wc wd) (hg : (wd.alloc o).grownBy w2 vt.ownBlock) : Kept vt.ownBlock.toList wc w2 :=
  ((Kept.ofBelow hb (Nat.le_refl _)).alloc o).grown hg (fun k e => .inl (by simp [e]))
theorem app_row (hL : LogAt wc q p g vt vs l) (hb : Below wc.heap.size wc wd) (hg : (wd.alloc o).grownBy w2 vt.ownBlock) : w2.heap[q]? = some (.cells (lcells p vt l) 75 (0, 0)) :=
  ((app_kept hb hg).block q hL.lt (fun hm => hL.tx.out q (by simpa using hm) (by simp))).trans hL.row
theorem app_end (hL : LogAt wc q p g vt vs l) (hlp : p < wc.heap.size) (hlg : g < wc.heap.size) (ho : OwnB 5 wc.heap.size wd u t) (hb : Below wc.heap.size wc wd) (hg : (wd.alloc o).grownBy w2 vt.ownBlock) (hown : OwnL 22 0 w2 v2 (vs ++ [u]))
    (hat : v2.ownBlock = vt.ownBlock ∨ v2.ownBlock = some (wd.alloc o).heap.size) :
    (w2.setCell ⟨q, 3, none⟩ v2).heap[q]? = some (.cells (lcells p v2 l) 75 (0, 0)) ∧ Tx (w2.setCell ⟨q, 3, none⟩ v2) v2 (l.texts ++ [t]) (vs ++ [u]) [p, g, q] ∧
    (∀ k, v2.ownBlock = some k → vt.ownBlock = some k ∨ wc.heap.size ≤ k) ∧ Kept ([q] ++ vt.ownBlock.toList) wc (w2.setCell ⟨q, 3, none⟩ v2) := by
  have hz : (wd.alloc o).heap.size = wd.heap.size + 1 := by simp
  have hbs := hb.size
  have hql := hL.lt
  have hgs := hg.size
  have hvq : ∀ k, vt.ownBlock = some k → k ≠ q ∧ k < wc.heap.size := fun k e => ⟨fun h => hL.tx.out k e (by simp [h]), (World.ownsRow.lt hL.tx.own k e).2⟩
  have h2 : ∀ k, v2.ownBlock = some k → vt.ownBlock = some k ∨ k = wd.heap.size + 1 := fun k e => by
    rcases hat with h1 | h1
    · exact .inl (h1 ▸ e)
    · exact .inr (by rw [h1, hz] at e; simpa using e.symm)
  have hK : Kept ([q] ++ vt.ownBlock.toList) wc (w2.setCell ⟨q, 3, none⟩ v2) := ((app_kept hb hg).mono (by intro k hk; simp at hk ⊢; exact .inr hk)).setCell (by simp) _
  refine ⟨heap_setCell_same w2 q 3 _ _ v2 (app_row hL hb hg), ?_, fun k e => ?_, hK⟩
  · refine hL.tx.append (B := wd.heap.size + 1) ⟨hlp, hlg, hql⟩ hK ?_ ?_ ?_ (by omega) ?_ (by rw [← hz]; exact hat)
    · refine hown.kept (l := [q]) ((Kept.refl [q] w2).setCell (by simp) _) fun k e hm => ?_
      simp only [List.mem_singleton] at hm
      rcases h2 k e with h3 | h3
      · exact (hvq k h3).1 hm
      · omega
    · refine ho.sl.keptV (l := [q] ++ vt.ownBlock.toList) ((((Kept.refl _ wd).alloc o).grown hg (fun k e => .inl (by simp [e]))).setCell (by simp) _) fun k e hm => ?_
      have h5 := World.ownsRow.lt ho k e
      simp only [List.mem_append, List.mem_singleton, Option.mem_toList] at hm
      rcases hm with rfl | hm
      · omega
      · have := (hvq k hm).2; omega
    · intro k e
      have h5 := World.ownsRow.lt ho k e
      omega
    · have : (w2.setCell ⟨q, 3, none⟩ v2).heap.size = w2.heap.size := by simp
      omega
  · rcases h2 k e with h3 | h3
    · exact .inl h3
    · exact .inr (by omega)
theorem app_fin {wx : World} {vs2 : List Value} (hrow : wx.heap[q]? = some (.cells (lcells p v2 l) 75 (0, 0))) (htx : Tx wx v2 (l.texts ++ [t]) vs2 [p, g, q]) (hne : q ≠ p ∧ q ≠ g)
    (hs : l.from_ ≤ 16384 ∧ l.sectors ≤ 16384 ∧ l.used ≤ l.sectors ∧ l.texts.length ≤ l.used) (U k : Nat) (hU : l.used = U) (hk : k ≤ l.sectors - U) (h1 : 1 ≤ k) :
    LogAt ((wx.setCell ⟨q, 4, none⟩ (.int .i64 ((U : Int) + k))).drew) q p g v2 vs2 { l with texts := l.texts ++ [t], used := l.used + k } := by
  subst hU
  have hr := heap_setCell_same wx q 4 _ _ (.int .i64 ((l.used : Int) + k)) hrow
  have ht : Tx ((wx.setCell ⟨q, 4, none⟩ (.int .i64 ((l.used : Int) + k))).drew) v2 (l.texts ++ [t]) vs2 [p, g, q] := htx.kept (l' := [q]) (((Kept.refl [q] wx).setCell (by simp) _).drew) (by simp)
  refine ⟨?_, hne, ht, ?_⟩
  · refine hr.trans ?_
    simp [lcells]
  · refine ⟨hs.1, hs.2.1, ?_, ?_⟩
    · show l.used + k ≤ l.sectors
      omega
    · show (l.texts ++ [t]).length ≤ l.used + k
      simp; omega
end
end Go.Proofs.Ytdnjjemdnlegdaa
