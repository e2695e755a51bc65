/-
  Numbers as bytes, the greatest first, in plain Lean. No program in sight.
-/
import Derived.WalkKit
import Derived.Test.YtnoilogepkelaaaDoorChecked
import Derived.Laws.Rows
import Derived.Lib.Hide
import Derived.ChangeKeysEq
import Derived.Deep.WholeRow
import Derived.Deep.QuietTactic
import Derived.BigQuiet
import Derived.ProofKit
import Derived.OpenShut
import Derived.ShutString
import Derived.ChangeOld
import Derived.Laws.AppendOwnNone
import Derived.WalkSpells
import Derived.Lib.AppendZeros
import Derived.Laws.CopyOwn
import Derived.Laws.MakeOwn
import Derived.Laws.Tables
import Derived.Laws.BytesArg
import Derived.Deep.Slices
import Derived.Deep.RegionHeld3
import Derived.RangeFuncNested
import Derived.RangeFuncBound
import Derived.RangeFuncCalls
import Derived.RangeFuncLeaves
import Derived.Shelf.Abstract
import Derived.Shelf.RegionOpen
import Derived.OwnWalkIn
import Derived.TacticsInMore
import Derived.LoopNIn
import Derived.LoopIn
namespace Go.Proofs.YtnoilogepkelaaaDoor
set_option linter.unusedVariables false
set_option linter.unusedSimpArgs false
open Go

theorem wrap_u32_mod (n : Int) : IntKind.u32.wrap n = n % 4294967296 := by simp [IntKind.wrap, IntKind.bits, IntKind.signed]
theorem wrap_u8_mod (n : Int) : IntKind.u8.wrap n = n % 256 := by simp [IntKind.wrap, IntKind.bits, IntKind.signed]
theorem wrap_u64_mod (n : Int) : IntKind.u64.wrap n = n % 18446744073709551616 := by simp [IntKind.wrap, IntKind.bits, IntKind.signed]

/-- A word's, a byte's number, as Go's values hold it. -/
def wv (x : BitVec 32) : Int := (x.toNat : Int)
def bv (x : BitVec 8) : Int := (x.toNat : Int)
theorem wv_def (x : BitVec 32) : wv x = (x.toNat : Int) := rfl
theorem bv_def (x : BitVec 8) : bv x = (x.toNat : Int) := rfl
theorem wv_nonneg (x : BitVec 32) : 0 ≤ wv x := by unfold wv; omega
theorem wv_lt (x : BitVec 32) : wv x < 4294967296 := by unfold wv; have := x.isLt; omega
theorem bv_nonneg (x : BitVec 8) : 0 ≤ bv x := by unfold bv; omega
theorem bv_lt (x : BitVec 8) : bv x < 256 := by unfold bv; have := x.isLt; omega
theorem wv_inj {x y : BitVec 32} (h : wv x = wv y) : x = y := by unfold wv at h; apply BitVec.eq_of_toNat_eq; omega
theorem bv_inj {x y : BitVec 8} (h : bv x = bv y) : x = y := by unfold bv at h; apply BitVec.eq_of_toNat_eq; omega
theorem wv_of {n : Int} (h0 : 0 ≤ n) (h : n < 4294967296) : ∃ x : BitVec 32, n = wv x :=
  ⟨BitVec.ofNat 32 n.toNat, by unfold wv; rw [BitVec.toNat_ofNat]; omega⟩
theorem bv_of {n : Int} (h0 : 0 ≤ n) (h : n < 256) : ∃ x : BitVec 8, n = bv x :=
  ⟨BitVec.ofNat 8 n.toNat, by unfold bv; rw [BitVec.toNat_ofNat]; omega⟩

theorem u32_add (a b : BitVec 32) : IntKind.u32.wrap (wv a + wv b) = wv (a + b) := by
  unfold wv; rw [wrap_u32_mod, BitVec.toNat_add]; omega
theorem u32_sub (a b : BitVec 32) : IntKind.u32.wrap (wv a - wv b) = wv (a - b) := by
  unfold wv; rw [wrap_u32_mod, BitVec.toNat_sub]; have := a.isLt; have := b.isLt; omega
theorem u32_mul (a b : BitVec 32) : IntKind.u32.wrap (wv a * wv b) = wv (a * b) := by
  unfold wv; rw [wrap_u32_mod, BitVec.toNat_mul]; have : ((a.toNat * b.toNat : Nat) : Int) = (a.toNat : Int) * b.toNat := by simp
  omega
theorem u32_xor (a b : BitVec 32) : bits .xor .u32 (wv a) (wv b) = wv (a ^^^ b) := by
  unfold wv; rw [u32_xor_nat _ _ a.isLt b.isLt, BitVec.toNat_xor]
theorem u32_or (a b : BitVec 32) : bits .or .u32 (wv a) (wv b) = wv (a ||| b) := by
  unfold wv; rw [u32_or_nat _ _ a.isLt b.isLt, BitVec.toNat_or]
theorem u32_and' (a b : BitVec 32) : bits .and .u32 (wv a) (wv b) = wv (a &&& b) := by
  unfold wv; rw [u32_and_nat _ _ a.isLt b.isLt, BitVec.toNat_and]
theorem u8_xor' (a b : BitVec 8) : bits .xor .u8 (bv a) (bv b) = bv (a ^^^ b) := by
  unfold bv; rw [u8_xor_nat _ _ a.isLt b.isLt, BitVec.toNat_xor]
theorem u8_or' (a b : BitVec 8) : bits .or .u8 (bv a) (bv b) = bv (a ||| b) := by
  unfold bv; rw [u8_or_nat _ _ a.isLt b.isLt, BitVec.toNat_or]
theorem u8_and' (a b : BitVec 8) : bits .and .u8 (bv a) (bv b) = bv (a &&& b) := by
  unfold bv; rw [u8_and_nat _ _ a.isLt b.isLt, BitVec.toNat_and]

theorem u32_shl (a : BitVec 32) (n : Nat) : IntKind.u32.wrap (wv a * 2 ^ n) = wv (a <<< n) := by
  unfold wv; rw [wrap_u32_mod, BitVec.toNat_shiftLeft, Nat.shiftLeft_eq]
  have : ((a.toNat * 2 ^ n : Nat) : Int) = (a.toNat : Int) * 2 ^ n := by simp
  omega
theorem u32_shr (a : BitVec 32) (n : Nat) : wv a / 2 ^ n = wv (a >>> n) := by
  unfold wv; rw [BitVec.toNat_ushiftRight, Nat.shiftRight_eq_div_pow]
  simp

theorem u32_shr8 (a : BitVec 32) : wv a / 256 = wv (a >>> 8) := u32_shr a 8
theorem u32_shr16 (a : BitVec 32) : wv a / 65536 = wv (a >>> 16) := u32_shr a 16
theorem u32_shr24 (a : BitVec 32) : wv a / 16777216 = wv (a >>> 24) := u32_shr a 24
theorem u32_shl8 (a : BitVec 32) : IntKind.u32.wrap (wv a * 256) = wv (a <<< 8) := u32_shl a 8
theorem u32_shl16 (a : BitVec 32) : IntKind.u32.wrap (wv a * 65536) = wv (a <<< 16) := u32_shl a 16
theorem u32_shl24 (a : BitVec 32) : IntKind.u32.wrap (wv a * 16777216) = wv (a <<< 24) := u32_shl a 24

/-- a byte as a word, a word's last byte -/
theorem u8_to_u32 (a : BitVec 8) : IntKind.u32.wrap (bv a) = wv (a.setWidth 32) := by
  unfold wv bv; rw [wrap_u32_mod, BitVec.toNat_setWidth]; have := a.isLt; omega
theorem u32_to_u8 (a : BitVec 32) : IntKind.u8.wrap (wv a) = bv (a.setWidth 8) := by
  unfold wv bv; rw [wrap_u8_mod, BitVec.toNat_setWidth]; omega

/-- Turning by the count that bits.RotateLeft32 reckons. -/
theorem rot_count (k : Int) : bits .and .u64 (IntKind.u64.wrap k) 31 = ((k % 32).toNat : Int) := by
  have h0 : 0 ≤ IntKind.u64.wrap k := wrap_u64_nonneg k
  have h1 : IntKind.u64.wrap k < 18446744073709551616 := by rw [wrap_u64_mod]; omega
  rw [u64_and _ _ h0 h1 (by omega) (by omega)]
  have e : (31 : Int).toNat = 31 := rfl
  rw [e, show (31 : Nat) = 2 ^ 5 - 1 from rfl, Nat.and_two_pow_sub_one_eq_mod, wrap_u64_mod]
  omega
theorem rot_eq (x : BitVec 32) (n : Nat) (h : n < 32) : x.rotateLeft n = (x <<< n) ||| (x >>> (32 - n)) := by
  rw [BitVec.rotateLeft_def, Nat.mod_eq_of_lt h]

theorem ret_int {k : IntKind} {a b : Int} (h : a = b) : Ending.returned (.int k a) = .returned (.int k b) := by rw [h]
end Go.Proofs.YtnoilogepkelaaaDoor
namespace Go.Proofs.YtnoilogepkelaaaDoor
set_option linter.unusedVariables false
set_option linter.unusedSimpArgs false
open Go Go.RowKit
attribute [local go_sem] u32_add u32_sub u32_xor u32_or u32_and' u32_shl u32_shr

theorem rotl_any (x : BitVec 32) (k : Int) (w : World) :
    Calls Tryd.prog 87 #[.int .u32 (wv x), .int .i64 k] w fun e w' => e = .returned (.int .u32 (wv (x.rotateLeft (k % 32).toNat))) ∧ w = w' := by
  have hr := rot_count k
  have hlt : (k % 32).toNat < 32 := by omega
  generalize (k % 32).toNat = n at hr hlt ⊢
  have he := rot_eq x n hlt
  have HE : Hid (x.rotateLeft n = (x <<< n) ||| (x >>> (32 - n))) := he
  clear he
  go_enter Tryd.func87, Tryd.ntmps87
  go_wp2
  go_ret
  refine ⟨ret_int ?_, rfl⟩
  rw [HE.out]
end Go.Proofs.YtnoilogepkelaaaDoor
namespace Go.Proofs.YtnoilogepkelaaaDoor
set_option linter.unusedVariables false
set_option linter.unusedSimpArgs false
open Go Go.RowKit

section
variable {P : Program}

/-- 'arr[i]' of an array's value whose elements are one cell each. -/
theorem run_index_row {T E n : Nat} {dE : TypeDesc} (hT : P.underlying T = some (.array n E)) (hE : P.underlying E = some dE)
    (hd : (match dE with | .struct _ | .array _ _ => true | _ => false) = false) (hi : (P.info? E).map (·.size) = some 1)
    (cs : Array Value) (hn : cs.size = n) (i : Int) (h0 : 0 ≤ i) (h1 : i < n) (w : World) :
    (Instr.index T (.agg cs) (.int .i64 i)).run P w = .ok (cs.getD i.toNat undef) w := by
  obtain ⟨info, hinfo, hsz⟩ : ∃ info, P.info? E = some info ∧ info.size = 1 := by
    cases h : P.info? E with
    | none => simp [h] at hi
    | some x => exact ⟨x, rfl, by simpa [h] using hi⟩
  have hlt : i.toNat < cs.size := by omega
  cases dE <;> simp at hd <;> simp [Instr.index, asIntOf, underlying, hT, hE, h0, h1, sizeOf, typeInfo, program, hinfo, hsz, part, isAgg, Array.getElem?_eq_getElem hlt, Sem.run, go_sem]

/-- Cells of one integer kind. -/
def ints (k : IntKind) (xs : List Int) : Array Value := (xs.map (Value.int k)).toArray
theorem ints_size (k : IntKind) (xs : List Int) : (ints k xs).size = xs.length := by simp [ints]
theorem ints_get (k : IntKind) (xs : List Int) (i : Nat) (h : i < xs.length) : (ints k xs).getD i undef = .int k (xs.getD i 0) := by
  simp [ints, h]
theorem ints_get? (k : IntKind) (xs : List Int) (i : Nat) (h : i < xs.length) : (ints k xs)[i]? = some (.int k (xs.getD i 0)) := by
  simp [ints, h]
theorem ints_set (k : IntKind) (xs : List Int) (i : Nat) (x : Int) : (ints k xs).setIfInBounds i (.int k x) = ints k (xs.set i x) := by
  simp [ints, List.map_set]

theorem all_getD_eq : ∀ (xs ys : List Int), xs.length = ys.length → ((List.range xs.length).all fun i => xs.getD i 0 == ys.getD i 0) = (xs == ys)
  | [], [], _ => rfl
  | x :: xs, y :: ys, h => by
    have ih := all_getD_eq xs ys (by simpa using h)
    rw [List.length_cons, List.range_succ_eq_map, List.all_cons, List.all_map]
    simp only [List.getD_cons_zero, Function.comp_def, List.getD_cons_succ, ih]
    simp [List.cons_beq_cons]
  | [], _ :: _, h => by simp at h
  | _ :: _, [], h => by simp at h

/-- '==' on arrays of integers. -/
theorem run_equalIn_ints {T E n : Nat} {k : IntKind} (hT : P.underlying T = some (.array n E)) (hE : P.underlying E = some (.int k)) (hi : (P.info? E).map (·.size) = some 1)
    (xs ys : List Int) (hx : xs.length = n) (hy : ys.length = n) (w : World) :
    (Op.equalIn 10000 T (.agg (ints k xs)) (.agg (ints k ys))).run P w = .ok (xs == ys) w := by
  obtain ⟨info, hinfo, hsz⟩ : ∃ info, P.info? E = some info ∧ info.size = 1 := by
    cases h : P.info? E with
    | none => simp [h] at hi
    | some x => exact ⟨x, rfl, by simpa [h] using hi⟩
  have hone : P.cellsOf E = 1 := by simp [Program.cellsOf, hinfo, hsz]
  rw [show 10000 = 9998 + 2 from rfl, run_equalIn_array w _ _ _ hT hinfo, hone, ← all_getD_eq xs ys (hx.trans hy.symm), hx]
  have hl : ∀ i ∈ List.range n, i < n := fun i hi => List.mem_range.1 hi
  generalize List.range n = l at hl ⊢
  have key : (Op.eqItems (9998 + 1) E 1 (ints k xs) (ints k ys) l).run P w = .ok (l.all fun i => xs.getD i 0 == ys.getD i 0) w := by
    induction l with
    | nil => simp [Op.eqItems]
    | cons i l ih =>
      have hi : i < n := hl i (by simp)
      have px : (part E (ints k xs) (i * 1)).run P w = .ok (.int k (xs.getD i 0)) w := by
        simp [part, isAgg, run_underlying hE, ints_get? k xs i (by omega)]
      have py : (part E (ints k ys) (i * 1)).run P w = .ok (.int k (ys.getD i 0)) w := by
        simp [part, isAgg, run_underlying hE, ints_get? k ys i (by omega)]
      have pe := run_equalIn_int w 9998 E k k (xs.getD i 0) (ys.getD i 0) hE
      simp only [Op.eqItems, Sem.run_bind, px, py, pe, Result.andThen_ok, List.all_cons]
      cases hb : (xs.getD i 0 == ys.getD i 0)
      · simp
      · simp only [Bool.not_true, Bool.false_eq_true, if_false, Bool.true_and]
        exact ih fun j hj => hl j (by simp [hj])
  exact key
end

theorem Below.drewN {B : Nat} {a w : World} (h : Below B a w) (n : Nat) : Below B a (w.drewN n) := ⟨h.os, h.tape, h.output, h.size, h.block⟩

/-- Behind a contract that ends in Below: every old cell and every old mark reads as before (two rules for the walk). -/
theorem bcell {W w1 : World} (hb : Below W.heap.size W w1) : (∀ b o, b < W.heap.size → w1.cell? ⟨b, o, none⟩ = W.cell? ⟨b, o, none⟩) ∧ (∀ b o, b < W.heap.size → w1.frozen? ⟨b, o, none⟩ = W.frozen? ⟨b, o, none⟩) :=
  ⟨fun b o h => hb.cell (p := ⟨b, o, none⟩) h, fun b o h => hb.frozen (p := ⟨b, o, none⟩) h⟩

theorem grownBy_below {w wr w' : World} {row : Option Nat} {B : Nat} (h : w.grownBy wr row) (hb : Below B wr w') (hB : wr.heap.size ≤ B) : w.grownBy w' row :=
  ⟨hb.os.trans h.os, hb.tape.trans h.tape, hb.output.trans h.output, Nat.le_trans h.size hb.size, fun k hk hne => (hb.block k (by have := h.size; omega)).trans (h.block k hk hne)⟩
theorem grownBy_setCell {w wr : World} {b o : Nat} {s : Option Nat} (h : w.grownBy wr (some b)) (v : Value) : w.grownBy (wr.setCell ⟨b, o, s⟩ v) (some b) :=
  ⟨h.os, h.tape, h.output, by simpa [World.setCell] using h.size, fun k hk hne => (heap_setCell_other wr ⟨b, o, s⟩ k v (by simpa using hne)).trans (h.block k hk hne)⟩
theorem grownBy_drew {w wr : World} {row : Option Nat} (h : w.grownBy wr row) : w.grownBy wr.drew row := ⟨h.os, h.tape, h.output, h.size, h.block⟩
theorem grownBy_drewN {w wr : World} {row : Option Nat} (h : w.grownBy wr row) (n : Nat) : w.grownBy (wr.drewN n) row := ⟨h.os, h.tape, h.output, h.size, h.block⟩
theorem heapA_old (w : World) (o : Obj) (i : Nat) (h : i < w.heap.size) : (w.alloc o).heap[i]? = w.heap[i]? := Below.heap_alloc w o i h
theorem heapA_new (w : World) (o : Obj) (i : Nat) (h : i = w.heap.size) : (w.alloc o).heap[i]? = some o := by subst h; exact heap_alloc_new w o
/-- Three new blocks, one behind the other. -/
theorem alloc3 (w : World) (a b c : Obj) : ∃ W, ((w.alloc a).alloc b).alloc c = W ∧ Below w.heap.size w W ∧ W.heap.size = w.heap.size + 3 ∧ W.heap[w.heap.size]? = some a ∧ W.heap[w.heap.size + 1]? = some b ∧ W.heap[w.heap.size + 2]? = some c := by
  refine ⟨_, rfl, (((Below.refl _ w).alloc (Nat.le_refl _) _).alloc (by simp) _).alloc (by simp <;> omega) _, by simp, ?_, ?_, ?_⟩
  · rw [heapA_old _ _ _ (by simp <;> omega), heapA_old _ _ _ (by simp), heapA_new _ _ _ rfl]
  · rw [heapA_old _ _ _ (by simp), heapA_new _ _ _ (by simp)]
  · rw [heapA_new _ _ _ (by simp)]
/-- Two new blocks. -/
theorem alloc2 (w : World) (a b : Obj) : ∃ W, (w.alloc a).alloc b = W ∧ Below w.heap.size w W ∧ W.heap.size = w.heap.size + 2 ∧ W.heap[w.heap.size]? = some a ∧ W.heap[w.heap.size + 1]? = some b := by
  refine ⟨_, rfl, ((Below.refl _ w).alloc (Nat.le_refl _) _).alloc (by simp) _, by simp, ?_, ?_⟩
  · rw [heapA_old _ _ _ (by simp), heapA_new _ _ _ rfl]
  · rw [heapA_new _ _ _ (by simp)]
/-- One new block. -/
theorem alloc1 (w : World) (a : Obj) : ∃ W, w.alloc a = W ∧ Below w.heap.size w W ∧ W.heap.size = w.heap.size + 1 ∧ W.heap[w.heap.size]? = some a :=
  ⟨_, rfl, (Below.refl _ w).alloc (Nat.le_refl _) _, by simp, heapA_new _ _ _ rfl⟩

/-- The run-time's mark behind a block's last cell (a constant text turned into bytes). -/
def mark (w : World) (b n : Nat) : World := w.freeze ⟨b, n, none⟩ 1
theorem shape?_at (w : World) (c : Array Value) (t : TypeId) (n : Nat) (h : n = w.heap.size) : (w.alloc (.cells c t)).shape? n = some (t, c.size) := by
  unfold World.shape?
  rw [heapA_new _ _ _ h]
theorem shape?_past (w : World) (o : Obj) (n : Nat) (h : n < w.heap.size) : (w.alloc o).shape? n = w.shape? n := by
  unfold World.shape?
  rw [heapA_old _ _ _ h]
theorem mark_drew (w : World) (b n : Nat) : mark w.drew b n = (mark w b n).drew := rfl
theorem mark_size (w : World) (b n : Nat) : (mark w b n).heap.size = w.heap.size := by simp [mark, World.freeze]
theorem mark_other (w : World) (b n k : Nat) (h : k ≠ b) : (mark w b n).heap[k]? = w.heap[k]? := by
  simp only [mark, World.freeze, Nat.one_ne_zero, if_false, Array.getElem?_modify]
  rw [if_neg (fun e => h e.symm)]
theorem mark_same (w : World) (b n : Nat) (c : Array Value) (t : TypeId) (h : w.heap[b]? = some (.cells c t (0, 0))) : (mark w b n).heap[b]? = some (.cells c t (n, n + 1)) := by
  simp [mark, World.freeze, Array.getElem?_modify, h]
theorem mark_cell (w : World) (b n : Nat) (a : Addr) : (mark w b n).cell? a = w.cell? a := by
  unfold World.cell?
  by_cases h : a.block = b
  · simp only [mark, World.freeze, Nat.one_ne_zero, if_false, Array.getElem?_modify]
    rw [if_pos h.symm]
    cases w.heap[a.block]? with
    | none => rfl
    | some o => cases o <;> rfl
  · rw [mark_other _ _ _ _ h]
theorem Below.mark {B : Nat} {w w' : World} (h : Below B w w') (b n : Nat) (hb : B ≤ b) : Below B w (mark w' b n) :=
  ⟨h.os, h.tape, h.output, by rw [mark_size]; exact h.size, fun k hk => (mark_other w' b n k (by omega)).trans (h.block k hk)⟩
/-- The same, where the block says how many cells it has. -/
def markS (w : World) (b : Nat) : World := mark w b (((w.shape? b).map (·.2)).getD 0)
theorem markS_drew (w : World) (b : Nat) : markS w.drew b = (markS w b).drew := rfl
theorem markS_size (w : World) (b : Nat) : (markS w b).heap.size = w.heap.size := mark_size _ _ _
theorem markS_cell (w : World) (b : Nat) (a : Addr) : (markS w b).cell? a = w.cell? a := mark_cell _ _ _ _
theorem markS_other (w : World) (b k : Nat) (h : k ≠ b) : (markS w b).heap[k]? = w.heap[k]? := mark_other _ _ _ _ h
theorem Below.markS {B : Nat} {w w' : World} (h : Below B w w') (b : Nat) (hb : B ≤ b) : Below B w (markS w' b) := Below.mark h b _ hb
theorem run_convert_same {P : Program} (w : World) (t e : TypeId) (b o n c : Nat) (ht : P.underlying t = some (.slice e)) (he : P.underlying e = some (.int .u8)) (hs : (w.shape? b).isSome = true) :
    (convert t t (.slice (some ⟨b, o, none⟩) n c)).run P w = .ok (.slice (some ⟨b, o, none⟩) n c) (markS w b) := by
  obtain ⟨⟨e', N⟩, hN⟩ := Option.isSome_iff_exists.1 hs
  simp [convert, run_underlying ht, run_underlying he, markStringish, hN, markS]
  rfl

/-- A list that is filled from its beginning on. -/
def fill {α : Type} (f : Nat → α) (z : α) (n k : Nat) : List α := (List.range k).map f ++ List.replicate (n - k) z
theorem fill_zero {α : Type} (f : Nat → α) (z : α) (n : Nat) : fill f z n 0 = List.replicate n z := by simp [fill]
theorem fill_length {α : Type} (f : Nat → α) (z : α) (n k : Nat) (h : k ≤ n) : (fill f z n k).length = n := by simp [fill]; omega
theorem fill_all {α : Type} (f : Nat → α) (z : α) (n : Nat) : fill f z n n = (List.range n).map f := by simp [fill]
theorem fill_set {α : Type} (f : Nat → α) (z : α) (n k : Nat) (h : k < n) : (fill f z n k).set k (f k) = fill f z n (k + 1) := by
  unfold fill
  rw [List.range_succ, List.map_append, List.append_assoc, List.set_append_right _ _ (by simp)]
  congr 1
  rw [show n - k = (n - (k + 1)) + 1 by omega, List.replicate_succ]
  simp
theorem fill_getD {α : Type} (f : Nat → α) (z d : α) (n k j : Nat) (h : j < k) : (fill f z n k).getD j d = f j := by
  simp [fill, List.getD, List.getElem?_append, h]
theorem fill_rest {α : Type} (f : Nat → α) (z d : α) (n k j : Nat) (h : k ≤ j) (hj : j < n) : (fill f z n k).getD j d = z := by
  simp [fill, List.getD, List.getElem?_append, Nat.not_lt.2 h]
  rw [List.getElem?_replicate, if_pos (by omega)]
  rfl
theorem setRow_at (w : World) (c c' : Array Value) (t : TypeId) (n : Nat) (h : n = w.heap.size) : (w.alloc (.cells c t)).setRow n c' = w.alloc (.cells c' t) := by
  subst h; exact World.setRow_alloc_new w c c' t
end Go.Proofs.YtnoilogepkelaaaDoor
namespace Go.Proofs.YtnoilogepkelaaaDoor
set_option linter.unusedVariables false
set_option linter.unusedSimpArgs false
open Go Go.RowKit Go.WideShapes Go.ChangeShapes

/-- Words, bytes as cells. -/
def words (xs : List (BitVec 32)) : Array Value := (xs.map fun x => Value.int .u32 (wv x)).toArray
def bytes (xs : List (BitVec 8)) : Array Value := (xs.map fun x => Value.int .u8 (bv x)).toArray
theorem words_size (xs : List (BitVec 32)) : (words xs).size = xs.length := by simp [words]
theorem bytes_size (xs : List (BitVec 8)) : (bytes xs).size = xs.length := by simp [bytes]

theorem words_get? (xs : List (BitVec 32)) (j : Nat) (h : j < xs.length) : (words xs)[j]? = some (.int .u32 (wv (xs.getD j 0))) := by simp [words, h]
theorem words_set (xs : List (BitVec 32)) (j : Nat) (x : BitVec 32) : (words xs).setIfInBounds j (.int .u32 (wv x)) = words (xs.set j x) := by simp [words, List.map_set]
theorem bytes_get? (xs : List (BitVec 8)) (j : Nat) (h : j < xs.length) : (bytes xs)[j]? = some (.int .u8 (bv (xs.getD j 0))) := by simp [bytes, h]
theorem bytes_set (xs : List (BitVec 8)) (j : Nat) (x : BitVec 8) : (bytes xs).setIfInBounds j (.int .u8 (bv x)) = bytes (xs.set j x) := by simp [bytes, List.map_set]

theorem words_one (xs : List (BitVec 32)) : (words xs).all (·.oneCell') = true := by
  rw [Array.all_eq_true_iff_forall_mem]
  intro v hv
  simp [words] at hv
  obtain ⟨x, _, rfl⟩ := hv
  rfl
theorem bytes_one (xs : List (BitVec 8)) : (bytes xs).all (·.oneCell') = true := by
  rw [Array.all_eq_true_iff_forall_mem]
  intro v hv
  simp [bytes] at hv
  obtain ⟨x, _, rfl⟩ := hv
  rfl

section
variable {P : Program}

theorem cell_int {w : World} {r : Reach} {base : Nat} {u : TypeId} {k : IntKind} {v : Value} (hu : P.underlying u = some (.int k)) (h : Cell.okWide P w r base u v) :
    ∃ n, v = .int k n ∧ k.min ≤ n ∧ n ≤ k.max := by
  unfold Cell.okWide at h
  rw [hu] at h
  unfold Cell.ok at h
  rw [hu] at h
  cases v <;> simp at h
  obtain ⟨rfl, h1, h2⟩ := h
  exact ⟨_, rfl, h1, h2⟩

theorem list_of_cells {α : Type} (f : α → Value) : ∀ (l : List Value), (∀ v ∈ l, ∃ x, v = f x) → ∃ xs : List α, l = xs.map f
  | [], _ => ⟨[], rfl⟩
  | v :: l, h => by
    obtain ⟨x, rfl⟩ := h v (by simp)
    obtain ⟨xs, rfl⟩ := list_of_cells f l fun u hu => h u (by simp [hu])
    exact ⟨x :: xs, rfl⟩

/-- Cells i to i + n of an aggregate whose cells have the types ts. -/
theorem open_part {α : Type} (f : α → Value) {w : World} {r : Reach} {base : Nat} {t u : TypeId} {v : Value} {ts : List TypeId} {d : TypeDesc} (ht : P.underlying t = some d)
    (hd : (match d with | .struct _ | .array _ _ => true | _ => false) = true) (hts : P.cellTypes P.depth t = some ts) (hcs : P.cellsOf t = ts.length)
    (h : Value.okWide P w r base t v) : ∃ cs : Array Value, v = .agg cs ∧ cs.size = ts.length ∧
      ∀ (i n : Nat), i + n ≤ ts.length → (∀ j, j < n → ts[i + j]? = some u) → (∀ c, Cell.okWide P w r base u c → ∃ x, c = f x) → ∃ xs : List α, xs.length = n ∧ (cs.extract i (i + n)).toList = xs.map f := by
  unfold Value.okWide at h
  rw [ht] at h
  have h' : ∃ cs, v = .agg cs ∧ cs.size = P.cellsOf t ∧ Row.okWide P w r base t cs := by
    cases d <;> simp at hd <;> exact h
  obtain ⟨cs, rfl, hs, ts', hts', _, hall⟩ := h'
  rw [hts] at hts'
  obtain rfl : ts = ts' := by simpa using hts'
  refine ⟨cs, rfl, hs.trans hcs, fun i n hin hu hf => ?_⟩
  obtain ⟨xs, hxs⟩ := list_of_cells f (cs.extract i (i + n)).toList fun c hc => by
    rw [Array.mem_toList_iff, Array.mem_extract_iff_getElem] at hc
    obtain ⟨j, hj, rfl⟩ := hc
    have hlt : i + j < cs.size := by omega
    obtain ⟨u', hu', hc'⟩ := hall (i + j) cs[i + j] (by simp [hlt])
    rw [Nat.mod_eq_of_lt (by omega), hu j (by omega)] at hu'
    obtain rfl : u = u' := by simpa using hu'
    exact hf _ hc'
  refine ⟨xs, ?_, hxs⟩
  have := congrArg List.length hxs
  simp at this
  omega

theorem cell_word {w : World} {r : Reach} {base : Nat} {u : TypeId} (hu : P.underlying u = some (.int .u32)) (c : Value) (h : Cell.okWide P w r base u c) : ∃ x : BitVec 32, c = .int .u32 (wv x) := by
  obtain ⟨n, rfl, h0, h1⟩ := cell_int hu h
  have e0 : IntKind.u32.min = 0 := rfl
  have e1 : IntKind.u32.max = 4294967295 := rfl
  obtain ⟨x, rfl⟩ := wv_of (n := n) (by omega) (by omega)
  exact ⟨x, rfl⟩
theorem cell_byte {w : World} {r : Reach} {base : Nat} {u : TypeId} (hu : P.underlying u = some (.int .u8)) (c : Value) (h : Cell.okWide P w r base u c) : ∃ x : BitVec 8, c = .int .u8 (bv x) := by
  obtain ⟨n, rfl, h0, h1⟩ := cell_int hu h
  have e0 : IntKind.u8.min = 0 := rfl
  have e1 : IntKind.u8.max = 255 := rfl
  obtain ⟨x, rfl⟩ := bv_of (n := n) (by omega) (by omega)
  exact ⟨x, rfl⟩

theorem replicate_get {α : Type} (n i j : Nat) (x : α) (h : i + j < n) : (List.replicate n x)[i + j]? = some x := by simp [h]

theorem open_words {w : World} {r : Reach} {base : Nat} {t e n : Nat} {v : Value} (ht : P.underlying t = some (.array n e)) (he : P.underlying e = some (.int .u32))
    (hts : P.cellTypes P.depth t = some (List.replicate n e)) (hcs : P.cellsOf t = n) (h : Value.okWide P w r base t v) : ∃ xs : List (BitVec 32), xs.length = n ∧ v = .agg (words xs) := by
  obtain ⟨cs, rfl, hs, hp⟩ := open_part (u := e) (fun x : BitVec 32 => Value.int .u32 (wv x)) ht rfl hts (by simpa using hcs) h
  obtain ⟨xs, hl, hx⟩ := hp 0 n (by simp) (fun j hj => replicate_get n 0 j e (by omega)) (fun c hc => cell_word he c hc)
  refine ⟨xs, hl, ?_⟩
  have : cs.extract 0 (0 + n) = cs := by simp at hs; simp [← hs]
  rw [this] at hx
  simp only [words, ← hx, Array.toArray_toList]
theorem open_bytes {w : World} {r : Reach} {base : Nat} {t e n : Nat} {v : Value} (ht : P.underlying t = some (.array n e)) (he : P.underlying e = some (.int .u8))
    (hts : P.cellTypes P.depth t = some (List.replicate n e)) (hcs : P.cellsOf t = n) (h : Value.okWide P w r base t v) : ∃ xs : List (BitVec 8), xs.length = n ∧ v = .agg (bytes xs) := by
  obtain ⟨cs, rfl, hs, hp⟩ := open_part (u := e) (fun x : BitVec 8 => Value.int .u8 (bv x)) ht rfl hts (by simpa using hcs) h
  obtain ⟨xs, hl, hx⟩ := hp 0 n (by simp) (fun j hj => replicate_get n 0 j e (by omega)) (fun c hc => cell_byte he c hc)
  refine ⟨xs, hl, ?_⟩
  have : cs.extract 0 (0 + n) = cs := by simp at hs; simp [← hs]
  rw [this] at hx
  simp only [bytes, ← hx, Array.toArray_toList]
end
end Go.Proofs.YtnoilogepkelaaaDoor
namespace Go.Proofs.YtnoilogepkelaaaDoor
set_option linter.unusedVariables false
set_option linter.unusedSimpArgs false
open Go Go.RowKit

def byteV (x : BitVec 8) : Value := .int .u8 (bv x)
def bcells (xs : List (BitVec 8)) : List Value := xs.map byteV
theorem bcells_length (xs : List (BitVec 8)) : (bcells xs).length = xs.length := by simp [bcells]
theorem bcells_append (xs ys : List (BitVec 8)) : bcells (xs ++ ys) = bcells xs ++ bcells ys := by simp [bcells]
theorem bcells_get? (xs : List (BitVec 8)) (j : Nat) (h : j < xs.length) : (bcells xs)[j]? = some (byteV (xs.getD j 0)) := by simp [bcells, h]
theorem bcells_one (xs : List (BitVec 8)) : ∀ u ∈ bcells xs, u.oneCell' = true := by
  intro u hu
  simp only [bcells, List.mem_map] at hu
  obtain ⟨x, _, rfl⟩ := hu
  rfl

/-- The slice value v reads as the bytes xs. -/
def SlB (w : World) (v : Value) (xs : List (BitVec 8)) : Prop :=
  ((∃ a, v = .slice a 0 0) ∧ xs = []) ∨
  ∃ b off cap, v = .slice (some ⟨b, off, none⟩) xs.length cap ∧ xs.length ≤ cap ∧ cap ≤ maxLen ∧ b < w.heap.size ∧
    ∀ j, j < xs.length → w.cell? ⟨b, off + j, none⟩ = some (byteV (xs.getD j 0))

theorem SlB.nil (w : World) : SlB w (.slice none 0 0) [] := .inl ⟨⟨none, rfl⟩, rfl⟩
theorem SlB.below {B : Nat} {w w' : World} {v : Value} {xs : List (BitVec 8)} (h : SlB w v xs) (hb : Below B w w') (hB : w.heap.size ≤ B) : SlB w' v xs := by
  rcases h with h | ⟨b, off, cap, rfl, h1, h2, h3, h4⟩
  · exact .inl h
  · refine .inr ⟨b, off, cap, rfl, h1, h2, by have := hb.size; omega, fun j hj => ?_⟩
    exact (hb.cell (p := ⟨b, off + j, none⟩) (by show b < B; omega)).trans (h4 j hj)
theorem SlB.grown {w w' : World} {v : Value} {xs : List (BitVec 8)} {row : Option Nat} (h : SlB w v xs) (hg : w.grownBy w' row) (hne : v.ownBlock = none ∨ v.ownBlock ≠ row) : SlB w' v xs := by
  rcases h with h | ⟨b, off, cap, rfl, h1, h2, h3, h4⟩
  · exact .inl h
  · refine .inr ⟨b, off, cap, rfl, h1, h2, by have := hg.size; omega, fun j hj => ?_⟩
    have hb := hg.block b h3 (by simpa [Value.ownBlock] using hne)
    exact (World.cell?_of_block (a := ⟨b, off + j, none⟩) hb).trans (h4 j hj)
theorem SlB.alloc {w : World} {v : Value} {xs : List (BitVec 8)} (h : SlB w v xs) (o : Obj) : SlB (w.alloc o) v xs :=
  h.grown (World.grownBy_alloc w o none) (by cases hv : v.ownBlock <;> simp)
theorem SlB.drew {w : World} {v : Value} {xs : List (BitVec 8)} (h : SlB w v xs) : SlB w.drew v xs := h
theorem SlB.drewN {w : World} {v : Value} {xs : List (BitVec 8)} (h : SlB w v xs) (n : Nat) : SlB (w.drewN n) v xs := h
theorem SlB.len {w : World} {v : Value} {xs : List (BitVec 8)} (h : SlB w v xs) : ∃ a cap, v = .slice a xs.length cap := by
  rcases h with ⟨⟨a, rfl⟩, rfl⟩ | ⟨b, off, cap, rfl, _⟩
  · exact ⟨a, 0, rfl⟩
  · exact ⟨_, cap, rfl⟩

theorem SlB.open_ {w : World} {v : Value} {xs : List (BitVec 8)} (h : SlB w v xs) (n : Nat) (hn : xs.length = n) (h0 : 0 < n) : ∃ b off cap, v = .slice (some ⟨b, off, none⟩) n cap ∧ n ≤ cap ∧ b < w.heap.size := by
  subst hn
  rcases h with ⟨_, rfl⟩ | ⟨b, off, cap, rfl, h1, h2, h3, h4⟩
  · simp at h0
  · exact ⟨b, off, cap, rfl, h1, h3⟩

/-- A block whose cells are just these bytes. -/
theorem SlB.block {w : World} {b : Nat} {cs : Array Value} {t : TypeId} {fr : Nat × Nat} (hb : w.heap[b]? = some (.cells cs t fr)) (off cap : Nat) (xs : List (BitVec 8)) (h1 : xs.length ≤ cap) (h2 : cap ≤ maxLen)
    (hx : ∀ j, j < xs.length → cs[off + j]? = some (byteV (xs.getD j 0))) : SlB w (.slice (some ⟨b, off, none⟩) xs.length cap) xs :=
  .inr ⟨b, off, cap, rfl, h1, h2, (Array.getElem?_eq_some_iff.1 hb).1, fun j hj => (cell_of_row w b (off + j) cs t fr hb).trans (hx j hj)⟩

/-- A block read cell by cell. -/
theorem SlB.ofRow {w : World} {b n cap : Nat} {C : Array Value} {xs : List (BitVec 8)} (hC : C.toList = bcells xs) (hn : n = xs.length) (hlt : b < w.heap.size) (hcell : ∀ j, w.cell? ⟨b, j, none⟩ = C[j]?) (h1 : xs.length ≤ cap) (h2 : cap ≤ maxLen) :
    SlB w (.slice (some ⟨b, 0, none⟩) n cap) xs := by
  subst hn
  refine .inr ⟨b, 0, cap, rfl, h1, h2, hlt, fun j hj => ?_⟩
  rw [Nat.zero_add, hcell j, ← Array.getElem?_toList, hC]
  exact bcells_get? xs j hj
theorem bytes_toList (xs : List (BitVec 8)) : (bytes xs).toList = bcells xs := by simp [bytes, bcells, byteV]

/-- A piece of a slice. -/
theorem SlB.cell {w : World} {b off len cap : Nat} {xs : List (BitVec 8)} (h : SlB w (.slice (some ⟨b, off, none⟩) len cap) xs) (j : Nat) (hj : j < xs.length) : w.cell? ⟨b, off + j, none⟩ = some (byteV (xs.getD j 0)) := by
  rcases h with ⟨_, rfl⟩ | ⟨b', off', cap', h, _, _, _, h4⟩
  · simp at hj
  · simp only [Value.slice.injEq, Option.some.injEq, Addr.mk.injEq] at h
    obtain ⟨⟨rfl, rfl, _⟩, _, _⟩ := h
    exact h4 j hj

theorem SlB.drop {w : World} {b off len cap : Nat} {xs : List (BitVec 8)} (h : SlB w (.slice (some ⟨b, off, none⟩) len cap) xs) (k : Nat) (hk : k ≤ len) :
    SlB w (.slice (some ⟨b, off + k, none⟩) (len - k) (cap - k)) (xs.drop k) := by
  rcases h with ⟨⟨a, h⟩, rfl⟩ | ⟨b', off', cap', h, h1, h2, h3, h4⟩
  · simp only [Value.slice.injEq] at h
    obtain ⟨_, rfl, rfl⟩ := h
    obtain rfl : k = 0 := by omega
    exact .inl ⟨⟨_, rfl⟩, by simp⟩
  · simp only [Value.slice.injEq, Option.some.injEq, Addr.mk.injEq] at h
    obtain ⟨⟨rfl, rfl, _⟩, rfl, rfl⟩ := h
    refine .inr ⟨b, off + k, cap - k, by simp, by simp; omega, by omega, h3, fun j hj => ?_⟩
    simp at hj
    rw [Nat.add_assoc, h4 (k + j) (by omega)]
    simp
theorem SlB.take {w : World} {b off len cap : Nat} {xs : List (BitVec 8)} (h : SlB w (.slice (some ⟨b, off, none⟩) len cap) xs) (k : Nat) (hk : k ≤ len) :
    SlB w (.slice (some ⟨b, off, none⟩) k cap) (xs.take k) := by
  rcases h with ⟨⟨a, h⟩, rfl⟩ | ⟨b', off', cap', h, h1, h2, h3, h4⟩
  · simp only [Value.slice.injEq] at h
    obtain ⟨_, rfl, rfl⟩ := h
    obtain rfl : k = 0 := by omega
    exact .inl ⟨⟨_, rfl⟩, by simp⟩
  · simp only [Value.slice.injEq, Option.some.injEq, Addr.mk.injEq] at h
    obtain ⟨⟨rfl, rfl, _⟩, rfl, rfl⟩ := h
    have e : (xs.take k).length = k := by simp; omega
    refine .inr ⟨b, off, cap, by rw [e], by omega, h2, h3, fun j hj => ?_⟩
    rw [e] at hj
    rw [h4 j (by omega)]
    simp [hj]
theorem SlB.setCell {w : World} {g off len cap : Nat} {xs : List (BitVec 8)} (h : SlB w (.slice (some ⟨g, off, none⟩) len cap) xs) {b o : Nat} {sp : Option Nat} (hne : g ≠ b) (v : Value) :
    SlB (w.setCell ⟨b, o, sp⟩ v) (.slice (some ⟨g, off, none⟩) len cap) xs :=
  h.grown (grownBy_setCell (World.grownBy.refl w _) v) (by simp [Value.ownBlock, hne])
theorem SlB.bounds {w : World} {a : Option Addr} {len cap : Nat} {xs : List (BitVec 8)} (h : SlB w (.slice a len cap) xs) : len = xs.length ∧ len ≤ cap ∧ cap ≤ maxLen := by
  rcases h with ⟨⟨a', h⟩, rfl⟩ | ⟨b', off', cap', h, h1, h2, h3, h4⟩
  · simp only [Value.slice.injEq] at h
    obtain ⟨rfl, rfl, rfl⟩ := h
    exact ⟨rfl, Nat.le_refl _, by decide⟩
  · simp only [Value.slice.injEq] at h
    obtain ⟨rfl, rfl, rfl⟩ := h
    exact ⟨rfl, h1, h2⟩

/-- What a call owns. E: the element type's number. -/
def OwnB (E base : Nat) (w : World) (v : Value) (xs : List (BitVec 8)) : Prop := w.ownsRow base E 1 v xs.length (bcells xs)

theorem OwnB.nil (E base : Nat) (w : World) : OwnB E base w (.slice none 0 0) [] := World.ownsRow_nil _ _ _ _
theorem OwnB.sl {E base : Nat} {w : World} {v : Value} {xs : List (BitVec 8)} (h : OwnB E base w v xs) : SlB w v xs := by
  rcases h with ⟨h1, ⟨rfl, h2⟩ | ⟨g, cap, cur, rfl, hb, hg, hn, hm, hs, ht⟩⟩
  · exact .inl ⟨⟨none, rfl⟩, List.eq_nil_of_length_eq_zero h2⟩
  · refine .inr ⟨g, 0, cap, rfl, hn, hm, (Array.getElem?_eq_some_iff.1 hg).1, fun j hj => ?_⟩
    rw [cell_of_row w g (0 + j) cur E (0, 0) hg, Nat.zero_add]
    have := bcells_get? xs j hj
    rw [← ht, List.getElem?_take] at this
    rw [if_pos (by omega)] at this
    simpa using this
theorem OwnB.form {E base : Nat} {w : World} {v : Value} {xs : List (BitVec 8)} (h : OwnB E base w v xs) (n : Nat) (hn : xs.length = n) (h0 : 0 < n) :
    ∃ g cap, v = .slice (some ⟨g, 0, none⟩) n cap ∧ base ≤ g ∧ g < w.heap.size ∧ n ≤ cap ∧ SlB w (.slice (some ⟨g, 0, none⟩) n cap) xs := by
  have hs := h.sl
  subst hn
  rcases h.2 with ⟨rfl, h2⟩ | ⟨g, cap, cur, rfl, hb, hg, hn, hm, _⟩
  · omega
  · exact ⟨g, cap, rfl, hb, (Array.getElem?_eq_some_iff.1 hg).1, hn, hs⟩
theorem OwnB.below {E base B : Nat} {w w' : World} {v : Value} {xs : List (BitVec 8)} (h : OwnB E base w v xs) (hb : Below B w w') (hB : w.heap.size ≤ B) : OwnB E base w' v xs := by
  refine ⟨h.1, ?_⟩
  rcases h.2 with hn | ⟨g, cap, cur, rfl, h1, hg, h2⟩
  · exact .inl hn
  · refine .inr ⟨g, cap, cur, rfl, h1, ?_, h2⟩
    rw [hb.block g (by have := (Array.getElem?_eq_some_iff.1 hg).1; omega)]
    exact hg
theorem OwnB.mono {E base base' : Nat} {w : World} {v : Value} {xs : List (BitVec 8)} (h : OwnB E base w v xs) (hB : base' ≤ base) : OwnB E base' w v xs := by
  refine ⟨h.1, ?_⟩
  rcases h.2 with hn | ⟨g, cap, cur, rfl, h1, hg⟩
  · exact .inl hn
  · exact .inr ⟨g, cap, cur, rfl, by omega, hg⟩

theorem OwnB.grown {E base : Nat} {w w' : World} {v : Value} {xs : List (BitVec 8)} {row : Option Nat} (h : OwnB E base w v xs) (hg : w.grownBy w' row) (hne : v.ownBlock = none ∨ v.ownBlock ≠ row) : OwnB E base w' v xs := by
  refine ⟨h.1, ?_⟩
  rcases h.2 with hn | ⟨g, cap, cur, rfl, h1, hb, h2⟩
  · exact .inl hn
  · refine .inr ⟨g, cap, cur, rfl, h1, ?_, h2⟩
    rw [hg.block g (Array.getElem?_eq_some_iff.1 hb).1 (by simpa [Value.ownBlock] using hne)]
    exact hb
theorem OwnB.alloc {E base : Nat} {w : World} {v : Value} {xs : List (BitVec 8)} (h : OwnB E base w v xs) (o : Obj) : OwnB E base (w.alloc o) v xs :=
  h.below ((Below.refl _ w).alloc (Nat.le_refl _) o) (Nat.le_refl _)
theorem OwnB.get_cell {E base : Nat} {w : World} {g n cap : Nat} {xs : List (BitVec 8)} (h : OwnB E base w (.slice (some ⟨g, 0, none⟩) n cap) xs) (j : Nat) (hj : j < xs.length) : w.cell? ⟨g, j, none⟩ = some (byteV (xs.getD j 0)) := by
  simpa using h.sl.cell j hj
theorem OwnB.not_frozen {E base : Nat} {w : World} {g n cap : Nat} {xs : List (BitVec 8)} (h : OwnB E base w (.slice (some ⟨g, 0, none⟩) n cap) xs) (j : Nat) : w.frozen? ⟨g, j, none⟩ = false := by
  rcases h.2 with ⟨e, _⟩ | ⟨g', cap', cur, e, _, hg, _⟩
  · simp at e
  · simp only [Value.slice.injEq, Option.some.injEq, Addr.mk.injEq] at e
    obtain ⟨⟨rfl, -, -⟩, rfl, rfl⟩ := e
    exact frozen_of_row w g j _ _ hg
theorem OwnB.set_cell {E base : Nat} {w : World} {g n cap : Nat} {xs : List (BitVec 8)} (h : OwnB E base w (.slice (some ⟨g, 0, none⟩) n cap) xs) (j : Nat) (hj : j < xs.length) (x : BitVec 8) :
    OwnB E base (w.setCell ⟨g, j, none⟩ (.int .u8 (bv x))) (.slice (some ⟨g, 0, none⟩) n cap) (xs.set j x) := by
  refine ⟨by simp [bcells], ?_⟩
  rcases h.2 with ⟨e, _⟩ | ⟨g', cap', cur, e, hb, hg, hn, hm, hs, ht⟩
  · simp at e
  · simp only [Value.slice.injEq, Option.some.injEq, Addr.mk.injEq] at e
    obtain ⟨⟨rfl, -, -⟩, rfl, rfl⟩ := e
    refine .inr ⟨g, cap, cur.setIfInBounds j (.int .u8 (bv x)), by simp, hb, heap_setCell_same w g j _ _ _ hg, by simpa using hn, hm, by simpa using hs, ?_⟩
    simp only [Nat.mul_one] at ht ⊢
    rw [Array.toList_setIfInBounds, List.take_set, List.length_set, ht]
    simp [bcells, byteV, List.map_set]
/-- A new block, full. -/
theorem OwnB.made {E base : Nat} (w : World) (xs : List (BitVec 8)) (hb : base ≤ w.heap.size) (hm : xs.length ≤ maxLen) : OwnB E base (w.alloc (.cells (bytes xs) E)) (.slice (some ⟨w.heap.size, 0, none⟩) xs.length xs.length) xs :=
  ⟨by simp [bcells], .inr ⟨w.heap.size, xs.length, bytes xs, rfl, hb, heap_alloc_new w _, Nat.le_refl _, hm, by simp [bytes_size], by rw [bytes_toList]; exact List.take_of_length_le (by simp [bcells])⟩⟩

/-- The slice value v has the elements vs (one cell each). -/
def SlL (w : World) (v : Value) (vs : List Value) : Prop :=
  (v = .slice none 0 0 ∧ vs = []) ∨
  ∃ b off cap, v = .slice (some ⟨b, off, none⟩) vs.length cap ∧ vs.length ≤ cap ∧ cap ≤ maxLen ∧ b < w.heap.size ∧
    ∀ j, j < vs.length → w.cell? ⟨b, off + j, none⟩ = some (vs.getD j undef)

/-- How many bytes some lists have. -/
def total (xss : List (List (BitVec 8))) : Nat := xss.flatten.length
theorem total_take_succ (xss : List (List (BitVec 8))) (k : Nat) (h : k < xss.length) : total (xss.take (k + 1)) = total (xss.take k) + (xss.getD k []).length := by
  unfold total
  rw [List.take_succ_eq_append_getElem h, List.flatten_append, List.length_append]
  simp [h]
theorem total_take_le (xss : List (List (BitVec 8))) (k : Nat) : total (xss.take k) ≤ total xss := by
  unfold total
  conv => rhs; rw [← List.take_append_drop k xss, List.flatten_append, List.length_append]
  omega
theorem flatten_take_succ (xss : List (List (BitVec 8))) (k : Nat) (h : k < xss.length) : (xss.take (k + 1)).flatten = (xss.take k).flatten ++ xss.getD k [] := by
  rw [List.take_succ_eq_append_getElem h, List.flatten_append]
  simp [h]

section
variable {P : Program}
/-- append(s, x...) onto a slice of the call's own, whatever the other one (nil, too). -/
theorem wpList_append_b {ops : Array Oper} {rest : List Oper} {o : Oper} {a : Act} {w : World} {Q : Exit → Act → World → Prop} (hgd : o.guard = none) (s x : Operand) (T E : TypeId)
    (ho : o.op = .call { callee := .builtin .append, args := #[s, x], argTypes := #[T, T] }) (ht : P.underlying T = some (.slice E))
    (hi : (P.info? E).map (fun i => (i.zero, i.size, i.bytes)) = some (some (.int .u8 0), 1, 1)) (base : Nat)
    (v : Value) (xs : List (BitVec 8)) (hown : OwnB E base w v xs) (hs : a.eval s = v) (u : Value) (ys : List (BitVec 8)) (hsl : SlB w u ys) (hx : a.eval x = u)
    (hlen : xs.length + ys.length ≤ 1000000000) (hbase : base ≤ w.heap.size)
    (h : ∀ v' w', OwnB E base w' v' (xs ++ ys) → w.grownBy w' v.ownBlock → True → wpList P ops Q rest (a.put o.dst v') w') : wpList P ops Q (o :: rest) a w := by
  obtain ⟨i, hi0, hz, hsz, hby⟩ := info_parts hi
  have hm : xs.length + ys.length ≤ maxLen := by unfold maxLen; omega
  rcases hsl with ⟨⟨_ | ad, rfl⟩, rfl⟩ | ⟨b, off, cap, rfl, h1, h2, h3, h4⟩
  · refine wpList_append_own_none hgd s x T ho base E i 1 ht hi0 v xs.length (bcells xs) hs hown hx ?_
    exact h v w (by simpa using hown) ⟨rfl, rfl, rfl, Nat.le_refl _, fun _ _ _ => rfl⟩ trivial
  · refine wpList_append_own w hgd s x T ho base E i (.int .u8 0) 1 1 ht hi0 hz hsz hby rfl (by decide) v xs.length (bcells xs) hs hown ad 0 0 [] hx rfl (by simp) (by simp) (by simpa using hm) (by omega) hbase ?_
    intro v' w' ho' hg' hn'
    exact h v' w' (by simpa [OwnB] using ho') hg' trivial
  · refine wpList_append_own w hgd s x T ho base E i (.int .u8 0) 1 1 ht hi0 hz hsz hby rfl (by decide) v xs.length (bcells xs) hs hown ⟨b, off, none⟩ ys.length cap (bcells ys) hx (by simp [bcells]) ?_ (bcells_one ys) hm (by omega) hbase ?_
    · intro j y hj
      have hlt : j < ys.length := by
        rw [← bcells_length]
        exact (List.getElem?_eq_some_iff.1 hj).1
      rw [bcells_get? ys j hlt] at hj
      obtain rfl : byteV (ys.getD j 0) = y := by simpa using hj
      have hadd : (⟨b, off, none⟩ : Addr).add j = ⟨b, off + j, none⟩ := by unfold Addr.add; split <;> simp_all
      rw [hadd]
      exact h4 j hlt
    · intro v' w' ho' hg' hn'
      refine h v' w' ?_ hg' trivial
      simpa [OwnB, bcells_append] using ho'
end
end Go.Proofs.YtnoilogepkelaaaDoor
namespace Go.Proofs.YtnoilogepkelaaaDoor
set_option linter.unusedVariables false
set_option linter.unusedSimpArgs false
open Go Go.RowKit

/-- A slice of the call's own comes back; nothing old is changed. -/
def RetB (w : World) (xs : List (BitVec 8)) (e : Ending) (w' : World) : Prop :=
  ∃ v', e = .returned v' ∧ OwnB 5 w.heap.size w' v' xs ∧ Below w.heap.size w w'

theorem info_u8 : (Tryd.prog.info? 5).map (fun i => (i.zero, i.size, i.bytes)) = some (some (.int .u8 0), 1, 1) := by kernel_rfl

theorem clone_any (v : Value) (xs : List (BitVec 8)) (w : World) (h : SlB w v xs) (hl : xs.length ≤ 500000000) :
    Calls Tryd.prog 95 #[v] w (RetB w xs) := by
  rcases h with ⟨⟨_ | ad, rfl⟩, rfl⟩ | ⟨b, off, cap, rfl, h1, h2, h3, h4⟩
  · have hn := fun w => Lib.run_eql_slice_nil (P := Tryd.prog) w 22 5 none 0 0 0 0 Tryd.underlying22
    go_enter Tryd.func95, Tryd.ntmps95
    go_wp2
    go_ret
    exact ⟨_, rfl, OwnB.nil _ _ _, Below.refl _ _⟩
  · have hn := fun w => Lib.run_eql_slice_nil (P := Tryd.prog) w 22 5 (some ad) 0 0 0 0 Tryd.underlying22
    have hs : SlB w (.slice (some ad) 0 0) [] := .inl ⟨⟨_, rfl⟩, rfl⟩
    go_enter Tryd.func95, Tryd.ntmps95
    go_wp2_with (at_builtin; refine wpList_append_b rfl (.tmp 5) (.tmp 6) 22 5 rfl Tryd.underlying22 info_u8 w.heap.size (.slice (some ⟨w.heap.size, 0, none⟩) 0 0) [] (World.ownsRow_made w #[] 0 (Nat.le_refl _) (by decide) rfl) rfl _ [] (hs.alloc _) rfl (by simp) (by simp) ?_; intro v' w' ho hg hn')
    go_ret
    exact ⟨_, rfl, ho, ((Below.refl _ w).alloc (Nat.le_refl _) _).grown hg (by simp) (by simp [Value.ownBlock])⟩
  · have hn := fun w => Lib.run_eql_slice_nil (P := Tryd.prog) w 22 5 (some ⟨b, off, none⟩) xs.length cap 0 0 Tryd.underlying22
    have hs : SlB w (.slice (some ⟨b, off, none⟩) xs.length cap) xs := .inr ⟨b, off, cap, rfl, h1, h2, h3, h4⟩
    clear h4
    go_enter Tryd.func95, Tryd.ntmps95
    go_wp2_with (at_builtin; refine wpList_append_b rfl (.tmp 5) (.tmp 6) 22 5 rfl Tryd.underlying22 info_u8 w.heap.size (.slice (some ⟨w.heap.size, 0, none⟩) 0 0) [] (World.ownsRow_made w #[] 0 (Nat.le_refl _) (by decide) rfl) rfl _ xs (hs.alloc _) rfl (by simp; omega) (by simp) ?_; intro v' w' ho hg hn')
    go_ret
    exact ⟨_, rfl, ho, ((Below.refl _ w).alloc (Nat.le_refl _) _).grown hg (by simp) (by simp [Value.ownBlock])⟩

end Go.Proofs.YtnoilogepkelaaaDoor
namespace Go.Proofs.YtnoilogepkelaaaDoor
set_option linter.unusedVariables false
set_option linter.unusedSimpArgs false
open Go Go.RowKit

theorem own_zeros (w : World) (n : Nat) (h0 : 0 < n) (hn : n ≤ 1000000000) :
    OwnB 5 w.heap.size (w.drew.alloc (.cells (Builtin.zeroCells #[.int .u8 0] n ++ Builtin.zeroCells #[.int .u8 0] (grownCap w n 0 5 - n)) 5))
      (.slice (some ⟨w.heap.size, 0, none⟩) 0 (grownCap w n 0 5)) [] := by
  have hge := grownCap_ge w n 0 5
  have hle := grownCap_le_maxLen w n 0 5 (by unfold maxLen; omega)
  refine ⟨rfl, .inr ⟨w.heap.size, _, _, rfl, Nat.le_refl _, heap_alloc_new w.drew _, Nat.zero_le _, hle, ?_, by simp [bcells]⟩⟩
  simp [size_zeroCells]
  omega

theorem grow_nil (k : Int) (w : World) (h0 : 0 ≤ k) (hk : k ≤ 1000000000) :
    Calls Tryd.prog 90 #[.slice none 0 0, .int .i64 k] w (RetB w []) := by
  obtain ⟨n, rfl⟩ := Int.eq_ofNat_of_zero_le h0
  by_cases hn : n = 0
  · subst hn
    go_enter Tryd.func90, Tryd.ntmps90
    go_wp2
    go_ret
    exact ⟨_, rfl, OwnB.nil _ _ _, Below.refl _ _⟩
  · have hz := own_zeros w n (by omega) (by omega)
    have hpos : (0 : Int) < (n : Int) := by omega
    obtain ⟨i, hi0, hiz, hisz, hiby⟩ := info_parts info_u8
    have hrun := fun ty => Lib.run_append_nil_zeros w 22 3 ty 5 i (.int .u8 0) .i64 .i64 Tryd.underlying22 Tryd.underlying3 hi0 hiz n (by omega) (by omega) (by omega) (by rw [hiby]; omega)
    have HR := Lib.hid hrun
    have HZ := Lib.hid hz
    clear hrun hz hi0 hiz hisz hiby
    go_enter Tryd.func90, Tryd.ntmps90
    go_wp2_with (at_builtin; refine Lib.wpList_append_run _ rfl (.tmp 20) (.tmp 21) _ _ rfl _ _ rfl rfl _ _ (HR.out _) ?_)
    go_ret
    exact ⟨_, rfl, HZ.out, ((Below.refl _ w).drew).alloc (Nat.le_refl _) _⟩

theorem concat_any (v : Value) (vs : List Value) (xss : List (List (BitVec 8))) (w : World) (hv : SlL w v vs) (hl : vs.length = xss.length)
    (hs : ∀ j, j < vs.length → SlB w (vs.getD j undef) (xss.getD j [])) (ht : total xss ≤ 500000000) (hn : vs.length ≤ 1000000) :
    Calls Tryd.prog 63 #[v] w (RetB w xss.flatten) := by
  obtain ⟨a, n, cap, rfl, rfl, hcell⟩ : ∃ a n cap, v = .slice a n cap ∧ n = vs.length ∧ ∀ j, j < vs.length → ∃ b off, a = some ⟨b, off, none⟩ ∧ b < w.heap.size ∧ w.cell? ⟨b, off + j, none⟩ = some (vs.getD j undef) := by
    rcases hv with ⟨rfl, rfl⟩ | ⟨b, off, cap, rfl, _, _, hb, h4⟩
    · exact ⟨_, _, _, rfl, rfl, fun j hj => absurd hj (by simp)⟩
    · exact ⟨_, _, _, rfl, rfl, fun j hj => ⟨b, off, rfl, hb, h4 j hj⟩⟩
  clear hv
  have HS := Lib.hid hs
  have HL := Lib.hid hl
  have HC := Lib.hid hcell
  clear hs hl hcell
  go_enter Tryd.func63, Tryd.ntmps63
  go_wp2
  go_loop [3, 11] (fun z i => ∃ k : Nat, k ≤ vs.length ∧ i = .int .i64 k ∧ z = .int .i64 (total (xss.take k))) (fun _ i => vs.length - (intOf i).toNat)
  case atStart => exact ⟨0, Nat.zero_le _, rfl, rfl⟩
  case round =>
    obtain ⟨k, hk, rfl, rfl⟩ := hrel
    have hb := total_take_le xss k
    by_cases hlt : k < vs.length
    · obtain ⟨b, off, rfl, hbw, hc⟩ := HC.out k hlt
      obtain ⟨a', c', hv'⟩ := (HS.out k hlt).len
      rw [hv'] at hc
      have hT := total_take_succ xss k (by have := HL.out; omega)
      have hb' := total_take_le xss (k + 1)
      rw [hT] at hb'
      generalize (xss.getD k []).length = m at hc hT hb'
      have HT := Lib.hid hT
      clear hv' hT
      go_wp2
      go_round
      case rel => exact ⟨k + 1, by omega, by go_num, by rw [HT.out]; go_num⟩
      case measure => simp [intOf]; omega
    · obtain rfl : k = vs.length := by omega
      have hT : xss.take vs.length = xss := List.take_of_length_le (by have := HL.out; omega)
      rw [hT] at hb ⊢
      clear hT
      go_wp2_with (go_at_call 90; refine (grow_nil _ w (by omega) (by omega)).mono ?_; rintro e w1 ⟨v1, rfl, ho1, hb1⟩)
      go_loopw [6, 27] (fun s i wr => ∃ k : Nat, k ≤ vs.length ∧ i = .int .i64 k ∧ OwnB 5 w.heap.size wr s (xss.take k).flatten ∧ Below w.heap.size w wr) (fun _ i _ => vs.length - (intOf i).toNat)
      case atStart => exact ⟨0, Nat.zero_le _, rfl, ho1, hb1⟩
      case round =>
        obtain ⟨k, hk, rfl, hok, hbk⟩ := hrel
        by_cases hlt : k < vs.length
        · obtain ⟨b, off, rfl, hbw, hc0⟩ := HC.out k hlt
          have hsk := (HS.out k hlt).below hbk (Nat.le_refl _)
          have hc := (hbk.cell (p := ⟨b, off + k, none⟩) hbw).trans hc0
          have hT := total_take_succ xss k (by have := HL.out; omega)
          have hb' := total_take_le xss (k + 1)
          have HF := Lib.hid (flatten_take_succ xss k (by have := HL.out; omega))
          have hlen : (xss.take k).flatten.length + (xss.getD k []).length ≤ 500000000 := by unfold total at hT hb' ht; omega
          have hsz := hbk.size
          clear hT hb' hc0
          generalize vs.getD k undef = u at hc hsk
          generalize xss.getD k [] = ys at hsk HF hlen
          go_wp2_with (at_builtin; refine wpList_append_b rfl (.tmp 31) (.tmp 32) 22 5 rfl Tryd.underlying22 info_u8 w.heap.size _ _ hok rfl _ _ hsk rfl (by omega) hsz ?_; intro v' w' ho hg hn'; have hb2 := hbk.grown hg hsz (fun k e => (World.ownsRow.lt hok k e).1); clear hg hn' hok hbk hsk)
          go_roundw
          case rel => exact ⟨k + 1, by omega, by go_num, by rw [HF.out]; exact ho, hb2⟩
          case measure => simp [intOf]; omega
        · obtain rfl : k = vs.length := by omega
          have hT : xss.take vs.length = xss := List.take_of_length_le (by have := HL.out; omega)
          rw [hT] at hok
          clear hT
          go_wp2
          go_ret
          exact ⟨_, rfl, hok, hbk⟩

/-- Concat of four slices that lie in one block. -/
theorem concat4 (w : World) (b : Nat) (v1 v2 v3 v4 : Value) (x1 x2 x3 x4 : List (BitVec 8)) (t : TypeId) (fr : Nat × Nat) (h : w.heap[b]? = some (.cells #[v1, v2, v3, v4] t fr))
    (h1 : SlB w v1 x1) (h2 : SlB w v2 x2) (h3 : SlB w v3 x3) (h4 : SlB w v4 x4) (hl : x1.length + x2.length + x3.length + x4.length ≤ 500000000) :
    Calls Tryd.prog 63 #[.slice (some ⟨b, 0, none⟩) 4 4] w (RetB w (x1 ++ x2 ++ x3 ++ x4)) := by
  have hc := concat_any (.slice (some ⟨b, 0, none⟩) 4 4) [v1, v2, v3, v4] [x1, x2, x3, x4] w (.inr ⟨b, 0, 4, rfl, by simp, by unfold maxLen; omega, (Array.getElem?_eq_some_iff.1 h).1, ?_⟩) rfl ?_ ?_ (by simp)
  · simpa using hc
  · intro j hj
    rw [cell_of_row w b (0 + j) _ _ _ h]
    match j, hj with
    | 0, _ => rfl
    | 1, _ => rfl
    | 2, _ => rfl
    | 3, _ => rfl
  · intro j hj
    match j, hj with
    | 0, _ => exact h1
    | 1, _ => exact h2
    | 2, _ => exact h3
    | 3, _ => exact h4
  · simp [total]; omega
/-- Concat of two and of three. -/
theorem concat2 (w : World) (b : Nat) (v1 v2 : Value) (x1 x2 : List (BitVec 8)) (t : TypeId) (fr : Nat × Nat) (h : w.heap[b]? = some (.cells #[v1, v2] t fr))
    (h1 : SlB w v1 x1) (h2 : SlB w v2 x2) (hl : x1.length + x2.length ≤ 500000000) :
    Calls Tryd.prog 63 #[.slice (some ⟨b, 0, none⟩) 2 2] w (RetB w (x1 ++ x2)) := by
  have hc := concat_any (.slice (some ⟨b, 0, none⟩) 2 2) [v1, v2] [x1, x2] w (.inr ⟨b, 0, 2, rfl, by simp, by unfold maxLen; omega, (Array.getElem?_eq_some_iff.1 h).1, ?_⟩) rfl ?_ ?_ (by simp)
  · simpa using hc
  · intro j hj
    rw [cell_of_row w b (0 + j) _ _ _ h]
    match j, hj with
    | 0, _ => rfl
    | 1, _ => rfl
  · intro j hj
    match j, hj with
    | 0, _ => exact h1
    | 1, _ => exact h2
  · simp [total]; omega
end Go.Proofs.YtnoilogepkelaaaDoor
namespace Go.Proofs.YtnoilogepkelaaaDoor
set_option linter.unusedVariables false
set_option linter.unusedSimpArgs false
open Go Go.RowKit

def wordV (x : BitVec 32) : Value := .int .u32 (wv x)
def wcells (xs : List (BitVec 32)) : List Value := xs.map wordV
theorem wcells_length (xs : List (BitVec 32)) : (wcells xs).length = xs.length := by simp [wcells]
theorem wcells_append (xs ys : List (BitVec 32)) : wcells (xs ++ ys) = wcells xs ++ wcells ys := by simp [wcells]
theorem wcells_get? (xs : List (BitVec 32)) (j : Nat) (h : j < xs.length) : (wcells xs)[j]? = some (wordV (xs.getD j 0)) := by simp [wcells, h]
theorem wcells_one (xs : List (BitVec 32)) : ∀ u ∈ wcells xs, u.oneCell' = true := by
  intro u hu
  simp only [wcells, List.mem_map] at hu
  obtain ⟨x, _, rfl⟩ := hu
  rfl

/-- The slice value v reads as the words xs. -/
def SlW (w : World) (v : Value) (xs : List (BitVec 32)) : Prop :=
  ((∃ a, v = .slice a 0 0) ∧ xs = []) ∨
  ∃ b off cap, v = .slice (some ⟨b, off, none⟩) xs.length cap ∧ xs.length ≤ cap ∧ cap ≤ maxLen ∧ b < w.heap.size ∧
    ∀ j, j < xs.length → w.cell? ⟨b, off + j, none⟩ = some (wordV (xs.getD j 0))

theorem SlW.nil (w : World) : SlW w (.slice none 0 0) [] := .inl ⟨⟨none, rfl⟩, rfl⟩
theorem SlW.below {B : Nat} {w w' : World} {v : Value} {xs : List (BitVec 32)} (h : SlW w v xs) (hb : Below B w w') (hB : w.heap.size ≤ B) : SlW w' v xs := by
  rcases h with h | ⟨b, off, cap, rfl, h1, h2, h3, h4⟩
  · exact .inl h
  · refine .inr ⟨b, off, cap, rfl, h1, h2, by have := hb.size; omega, fun j hj => ?_⟩
    exact (hb.cell (p := ⟨b, off + j, none⟩) (by show b < B; omega)).trans (h4 j hj)
theorem SlW.grown {w w' : World} {v : Value} {xs : List (BitVec 32)} {row : Option Nat} (h : SlW w v xs) (hg : w.grownBy w' row) (hne : v.ownBlock = none ∨ v.ownBlock ≠ row) : SlW w' v xs := by
  rcases h with h | ⟨b, off, cap, rfl, h1, h2, h3, h4⟩
  · exact .inl h
  · refine .inr ⟨b, off, cap, rfl, h1, h2, by have := hg.size; omega, fun j hj => ?_⟩
    have hb := hg.block b h3 (by simpa [Value.ownBlock] using hne)
    exact (World.cell?_of_block (a := ⟨b, off + j, none⟩) hb).trans (h4 j hj)
theorem SlW.alloc {w : World} {v : Value} {xs : List (BitVec 32)} (h : SlW w v xs) (o : Obj) : SlW (w.alloc o) v xs :=
  h.grown (World.grownBy_alloc w o none) (by cases hv : v.ownBlock <;> simp)
theorem SlW.drew {w : World} {v : Value} {xs : List (BitVec 32)} (h : SlW w v xs) : SlW w.drew v xs := h
theorem SlW.drewN {w : World} {v : Value} {xs : List (BitVec 32)} (h : SlW w v xs) (n : Nat) : SlW (w.drewN n) v xs := h
theorem SlW.len {w : World} {v : Value} {xs : List (BitVec 32)} (h : SlW w v xs) : ∃ a cap, v = .slice a xs.length cap := by
  rcases h with ⟨⟨a, rfl⟩, rfl⟩ | ⟨b, off, cap, rfl, _⟩
  · exact ⟨a, 0, rfl⟩
  · exact ⟨_, cap, rfl⟩

theorem SlW.open_ {w : World} {v : Value} {xs : List (BitVec 32)} (h : SlW w v xs) (n : Nat) (hn : xs.length = n) (h0 : 0 < n) : ∃ b off cap, v = .slice (some ⟨b, off, none⟩) n cap ∧ n ≤ cap ∧ b < w.heap.size := by
  subst hn
  rcases h with ⟨_, rfl⟩ | ⟨b, off, cap, rfl, h1, h2, h3, h4⟩
  · simp at h0
  · exact ⟨b, off, cap, rfl, h1, h3⟩

/-- A block whose cells are just these words. -/
theorem SlW.block {w : World} {b : Nat} {cs : Array Value} {t : TypeId} {fr : Nat × Nat} (hb : w.heap[b]? = some (.cells cs t fr)) (off cap : Nat) (xs : List (BitVec 32)) (h1 : xs.length ≤ cap) (h2 : cap ≤ maxLen)
    (hx : ∀ j, j < xs.length → cs[off + j]? = some (wordV (xs.getD j 0))) : SlW w (.slice (some ⟨b, off, none⟩) xs.length cap) xs :=
  .inr ⟨b, off, cap, rfl, h1, h2, (Array.getElem?_eq_some_iff.1 hb).1, fun j hj => (cell_of_row w b (off + j) cs t fr hb).trans (hx j hj)⟩

/-- A block read cell by cell. -/
theorem SlW.ofRow {w : World} {b n cap : Nat} {C : Array Value} {xs : List (BitVec 32)} (hC : C.toList = wcells xs) (hn : n = xs.length) (hlt : b < w.heap.size) (hcell : ∀ j, w.cell? ⟨b, j, none⟩ = C[j]?) (h1 : xs.length ≤ cap) (h2 : cap ≤ maxLen) :
    SlW w (.slice (some ⟨b, 0, none⟩) n cap) xs := by
  subst hn
  refine .inr ⟨b, 0, cap, rfl, h1, h2, hlt, fun j hj => ?_⟩
  rw [Nat.zero_add, hcell j, ← Array.getElem?_toList, hC]
  exact wcells_get? xs j hj
theorem words_toList (xs : List (BitVec 32)) : (words xs).toList = wcells xs := by simp [words, wcells, wordV]

/-- A piece of a slice. -/
theorem SlW.cell {w : World} {b off len cap : Nat} {xs : List (BitVec 32)} (h : SlW w (.slice (some ⟨b, off, none⟩) len cap) xs) (j : Nat) (hj : j < xs.length) : w.cell? ⟨b, off + j, none⟩ = some (wordV (xs.getD j 0)) := by
  rcases h with ⟨_, rfl⟩ | ⟨b', off', cap', h, _, _, _, h4⟩
  · simp at hj
  · simp only [Value.slice.injEq, Option.some.injEq, Addr.mk.injEq] at h
    obtain ⟨⟨rfl, rfl, _⟩, _, _⟩ := h
    exact h4 j hj

theorem SlW.drop {w : World} {b off len cap : Nat} {xs : List (BitVec 32)} (h : SlW w (.slice (some ⟨b, off, none⟩) len cap) xs) (k : Nat) (hk : k ≤ len) :
    SlW w (.slice (some ⟨b, off + k, none⟩) (len - k) (cap - k)) (xs.drop k) := by
  rcases h with ⟨⟨a, h⟩, rfl⟩ | ⟨b', off', cap', h, h1, h2, h3, h4⟩
  · simp only [Value.slice.injEq] at h
    obtain ⟨_, rfl, rfl⟩ := h
    obtain rfl : k = 0 := by omega
    exact .inl ⟨⟨_, rfl⟩, by simp⟩
  · simp only [Value.slice.injEq, Option.some.injEq, Addr.mk.injEq] at h
    obtain ⟨⟨rfl, rfl, _⟩, rfl, rfl⟩ := h
    refine .inr ⟨b, off + k, cap - k, by simp, by simp; omega, by omega, h3, fun j hj => ?_⟩
    simp at hj
    rw [Nat.add_assoc, h4 (k + j) (by omega)]
    simp
theorem SlW.take {w : World} {b off len cap : Nat} {xs : List (BitVec 32)} (h : SlW w (.slice (some ⟨b, off, none⟩) len cap) xs) (k : Nat) (hk : k ≤ len) :
    SlW w (.slice (some ⟨b, off, none⟩) k cap) (xs.take k) := by
  rcases h with ⟨⟨a, h⟩, rfl⟩ | ⟨b', off', cap', h, h1, h2, h3, h4⟩
  · simp only [Value.slice.injEq] at h
    obtain ⟨_, rfl, rfl⟩ := h
    obtain rfl : k = 0 := by omega
    exact .inl ⟨⟨_, rfl⟩, by simp⟩
  · simp only [Value.slice.injEq, Option.some.injEq, Addr.mk.injEq] at h
    obtain ⟨⟨rfl, rfl, _⟩, rfl, rfl⟩ := h
    have e : (xs.take k).length = k := by simp; omega
    refine .inr ⟨b, off, cap, by rw [e], by omega, h2, h3, fun j hj => ?_⟩
    rw [e] at hj
    rw [h4 j (by omega)]
    simp [hj]
theorem SlW.setCell {w : World} {g off len cap : Nat} {xs : List (BitVec 32)} (h : SlW w (.slice (some ⟨g, off, none⟩) len cap) xs) {b o : Nat} {sp : Option Nat} (hne : g ≠ b) (v : Value) :
    SlW (w.setCell ⟨b, o, sp⟩ v) (.slice (some ⟨g, off, none⟩) len cap) xs :=
  h.grown (grownBy_setCell (World.grownBy.refl w _) v) (by simp [Value.ownBlock, hne])
theorem SlW.bounds {w : World} {a : Option Addr} {len cap : Nat} {xs : List (BitVec 32)} (h : SlW w (.slice a len cap) xs) : len = xs.length ∧ len ≤ cap ∧ cap ≤ maxLen := by
  rcases h with ⟨⟨a', h⟩, rfl⟩ | ⟨b', off', cap', h, h1, h2, h3, h4⟩
  · simp only [Value.slice.injEq] at h
    obtain ⟨rfl, rfl, rfl⟩ := h
    exact ⟨rfl, Nat.le_refl _, by decide⟩
  · simp only [Value.slice.injEq] at h
    obtain ⟨rfl, rfl, rfl⟩ := h
    exact ⟨rfl, h1, h2⟩

/-- What a call owns. E: the element type's number. -/
def OwnW (E base : Nat) (w : World) (v : Value) (xs : List (BitVec 32)) : Prop := w.ownsRow base E 1 v xs.length (wcells xs)

theorem OwnW.nil (E base : Nat) (w : World) : OwnW E base w (.slice none 0 0) [] := World.ownsRow_nil _ _ _ _
theorem OwnW.sl {E base : Nat} {w : World} {v : Value} {xs : List (BitVec 32)} (h : OwnW E base w v xs) : SlW w v xs := by
  rcases h with ⟨h1, ⟨rfl, h2⟩ | ⟨g, cap, cur, rfl, hb, hg, hn, hm, hs, ht⟩⟩
  · exact .inl ⟨⟨none, rfl⟩, List.eq_nil_of_length_eq_zero h2⟩
  · refine .inr ⟨g, 0, cap, rfl, hn, hm, (Array.getElem?_eq_some_iff.1 hg).1, fun j hj => ?_⟩
    rw [cell_of_row w g (0 + j) cur E (0, 0) hg, Nat.zero_add]
    have := wcells_get? xs j hj
    rw [← ht, List.getElem?_take] at this
    rw [if_pos (by omega)] at this
    simpa using this
theorem OwnW.form {E base : Nat} {w : World} {v : Value} {xs : List (BitVec 32)} (h : OwnW E base w v xs) (n : Nat) (hn : xs.length = n) (h0 : 0 < n) :
    ∃ g cap, v = .slice (some ⟨g, 0, none⟩) n cap ∧ base ≤ g ∧ g < w.heap.size ∧ n ≤ cap ∧ SlW w (.slice (some ⟨g, 0, none⟩) n cap) xs := by
  have hs := h.sl
  subst hn
  rcases h.2 with ⟨rfl, h2⟩ | ⟨g, cap, cur, rfl, hb, hg, hn, hm, _⟩
  · omega
  · exact ⟨g, cap, rfl, hb, (Array.getElem?_eq_some_iff.1 hg).1, hn, hs⟩
theorem OwnW.below {E base B : Nat} {w w' : World} {v : Value} {xs : List (BitVec 32)} (h : OwnW E base w v xs) (hb : Below B w w') (hB : w.heap.size ≤ B) : OwnW E base w' v xs := by
  refine ⟨h.1, ?_⟩
  rcases h.2 with hn | ⟨g, cap, cur, rfl, h1, hg, h2⟩
  · exact .inl hn
  · refine .inr ⟨g, cap, cur, rfl, h1, ?_, h2⟩
    rw [hb.block g (by have := (Array.getElem?_eq_some_iff.1 hg).1; omega)]
    exact hg
theorem OwnW.mono {E base base' : Nat} {w : World} {v : Value} {xs : List (BitVec 32)} (h : OwnW E base w v xs) (hB : base' ≤ base) : OwnW E base' w v xs := by
  refine ⟨h.1, ?_⟩
  rcases h.2 with hn | ⟨g, cap, cur, rfl, h1, hg⟩
  · exact .inl hn
  · exact .inr ⟨g, cap, cur, rfl, by omega, hg⟩

theorem OwnW.grown {E base : Nat} {w w' : World} {v : Value} {xs : List (BitVec 32)} {row : Option Nat} (h : OwnW E base w v xs) (hg : w.grownBy w' row) (hne : v.ownBlock = none ∨ v.ownBlock ≠ row) : OwnW E base w' v xs := by
  refine ⟨h.1, ?_⟩
  rcases h.2 with hn | ⟨g, cap, cur, rfl, h1, hb, h2⟩
  · exact .inl hn
  · refine .inr ⟨g, cap, cur, rfl, h1, ?_, h2⟩
    rw [hg.block g (Array.getElem?_eq_some_iff.1 hb).1 (by simpa [Value.ownBlock] using hne)]
    exact hb
theorem OwnW.alloc {E base : Nat} {w : World} {v : Value} {xs : List (BitVec 32)} (h : OwnW E base w v xs) (o : Obj) : OwnW E base (w.alloc o) v xs :=
  h.below ((Below.refl _ w).alloc (Nat.le_refl _) o) (Nat.le_refl _)
theorem OwnW.get_cell {E base : Nat} {w : World} {g n cap : Nat} {xs : List (BitVec 32)} (h : OwnW E base w (.slice (some ⟨g, 0, none⟩) n cap) xs) (j : Nat) (hj : j < xs.length) : w.cell? ⟨g, j, none⟩ = some (wordV (xs.getD j 0)) := by
  simpa using h.sl.cell j hj
theorem OwnW.not_frozen {E base : Nat} {w : World} {g n cap : Nat} {xs : List (BitVec 32)} (h : OwnW E base w (.slice (some ⟨g, 0, none⟩) n cap) xs) (j : Nat) : w.frozen? ⟨g, j, none⟩ = false := by
  rcases h.2 with ⟨e, _⟩ | ⟨g', cap', cur, e, _, hg, _⟩
  · simp at e
  · simp only [Value.slice.injEq, Option.some.injEq, Addr.mk.injEq] at e
    obtain ⟨⟨rfl, -, -⟩, rfl, rfl⟩ := e
    exact frozen_of_row w g j _ _ hg
theorem OwnW.set_cell {E base : Nat} {w : World} {g n cap : Nat} {xs : List (BitVec 32)} (h : OwnW E base w (.slice (some ⟨g, 0, none⟩) n cap) xs) (j : Nat) (hj : j < xs.length) (x : BitVec 32) :
    OwnW E base (w.setCell ⟨g, j, none⟩ (.int .u32 (wv x))) (.slice (some ⟨g, 0, none⟩) n cap) (xs.set j x) := by
  refine ⟨by simp [wcells], ?_⟩
  rcases h.2 with ⟨e, _⟩ | ⟨g', cap', cur, e, hb, hg, hn, hm, hs, ht⟩
  · simp at e
  · simp only [Value.slice.injEq, Option.some.injEq, Addr.mk.injEq] at e
    obtain ⟨⟨rfl, -, -⟩, rfl, rfl⟩ := e
    refine .inr ⟨g, cap, cur.setIfInBounds j (.int .u32 (wv x)), by simp, hb, heap_setCell_same w g j _ _ _ hg, by simpa using hn, hm, by simpa using hs, ?_⟩
    simp only [Nat.mul_one] at ht ⊢
    rw [Array.toList_setIfInBounds, List.take_set, List.length_set, ht]
    simp [wcells, wordV, List.map_set]
/-- A new block, full. -/
theorem OwnW.made {E base : Nat} (w : World) (xs : List (BitVec 32)) (hb : base ≤ w.heap.size) (hm : xs.length ≤ maxLen) : OwnW E base (w.alloc (.cells (words xs) E)) (.slice (some ⟨w.heap.size, 0, none⟩) xs.length xs.length) xs :=
  ⟨by simp [wcells], .inr ⟨w.heap.size, xs.length, words xs, rfl, hb, heap_alloc_new w _, Nat.le_refl _, hm, by simp [words_size], by rw [words_toList]; exact List.take_of_length_le (by simp [wcells])⟩⟩

section
variable {P : Program}
/-- append(s, x...) onto a slice of the call's own, whatever the other one (nil, too). -/
theorem wpList_append_w {ops : Array Oper} {rest : List Oper} {o : Oper} {a : Act} {w : World} {Q : Exit → Act → World → Prop} (hgd : o.guard = none) (s x : Operand) (T E : TypeId)
    (ho : o.op = .call { callee := .builtin .append, args := #[s, x], argTypes := #[T, T] }) (ht : P.underlying T = some (.slice E))
    (hi : (P.info? E).map (fun i => (i.zero, i.size, i.bytes)) = some (some (.int .u32 0), 1, 4)) (base : Nat)
    (v : Value) (xs : List (BitVec 32)) (hown : OwnW E base w v xs) (hs : a.eval s = v) (u : Value) (ys : List (BitVec 32)) (hsl : SlW w u ys) (hx : a.eval x = u)
    (hlen : xs.length + ys.length ≤ 100000000) (hbase : base ≤ w.heap.size)
    (h : ∀ v' w', OwnW E base w' v' (xs ++ ys) → w.grownBy w' v.ownBlock → True → wpList P ops Q rest (a.put o.dst v') w') : wpList P ops Q (o :: rest) a w := by
  obtain ⟨i, hi0, hz, hsz, hby⟩ := info_parts hi
  have hm : xs.length + ys.length ≤ maxLen := by unfold maxLen; omega
  rcases hsl with ⟨⟨_ | ad, rfl⟩, rfl⟩ | ⟨b, off, cap, rfl, h1, h2, h3, h4⟩
  · refine wpList_append_own_none hgd s x T ho base E i 1 ht hi0 v xs.length (wcells xs) hs hown hx ?_
    exact h v w (by simpa using hown) ⟨rfl, rfl, rfl, Nat.le_refl _, fun _ _ _ => rfl⟩ trivial
  · refine wpList_append_own w hgd s x T ho base E i (.int .u32 0) 1 4 ht hi0 hz hsz hby rfl (by decide) v xs.length (wcells xs) hs hown ad 0 0 [] hx rfl (by simp) (by simp) (by simpa using hm) (by omega) hbase ?_
    intro v' w' ho' hg' hn'
    exact h v' w' (by simpa [OwnW] using ho') hg' trivial
  · refine wpList_append_own w hgd s x T ho base E i (.int .u32 0) 1 4 ht hi0 hz hsz hby rfl (by decide) v xs.length (wcells xs) hs hown ⟨b, off, none⟩ ys.length cap (wcells ys) hx (by simp [wcells]) ?_ (wcells_one ys) hm (by omega) hbase ?_
    · intro j y hj
      have hlt : j < ys.length := by
        rw [← wcells_length]
        exact (List.getElem?_eq_some_iff.1 hj).1
      rw [wcells_get? ys j hlt] at hj
      obtain rfl : wordV (ys.getD j 0) = y := by simpa using hj
      have hadd : (⟨b, off, none⟩ : Addr).add j = ⟨b, off + j, none⟩ := by unfold Addr.add; split <;> simp_all
      rw [hadd]
      exact h4 j hlt
    · intro v' w' ho' hg' hn'
      refine h v' w' ?_ hg' trivial
      simpa [OwnW, wcells_append] using ho'
end
theorem apart_wb {E E' base base' : Nat} {w : World} {v u : Value} {xs : List (BitVec 32)} {ys : List (BitVec 8)} (h : OwnW E base w v xs) (h' : OwnB E' base' w u ys) (hne : E ≠ E') : u.ownBlock = none ∨ u.ownBlock ≠ v.ownBlock := by
  rcases h'.2 with ⟨rfl, _⟩ | ⟨g, cap, cur, rfl, _, hg, _⟩
  · exact .inl rfl
  · right
    rcases h.2 with ⟨rfl, _⟩ | ⟨g', cap', cur', rfl, _, hg', _⟩
    · simp [Value.ownBlock]
    · intro e
      simp [Value.ownBlock] at e
      subst e
      rw [hg] at hg'
      simp at hg'
      exact hne hg'.2.symm
end Go.Proofs.YtnoilogepkelaaaDoor
namespace Go.Proofs.YtnoilogepkelaaaDoor
set_option linter.unusedVariables false
set_option linter.unusedSimpArgs false
open Go Go.RowKit

def Kept (l : List Nat) (w w' : World) : Prop :=
  w'.os = w.os ∧ w'.tape = w.tape ∧ w'.output = w.output ∧ w.heap.size ≤ w'.heap.size ∧ ∀ k, k < w.heap.size → k ∉ l → w'.heap[k]? = w.heap[k]?
theorem Kept.refl (l : List Nat) (w : World) : Kept l w w := ⟨rfl, rfl, rfl, Nat.le_refl _, fun _ _ _ => rfl⟩
theorem Kept.size {l : List Nat} {w w' : World} (h : Kept l w w') : w.heap.size ≤ w'.heap.size := h.2.2.2.1
theorem Kept.block {l : List Nat} {w w' : World} (h : Kept l w w') (k : Nat) (hk : k < w.heap.size) (hl : k ∉ l) : w'.heap[k]? = w.heap[k]? := h.2.2.2.2 k hk hl
theorem Kept.trans {l : List Nat} {a b c : World} (h : Kept l a b) (h' : Kept l b c) : Kept l a c :=
  ⟨h'.1.trans h.1, h'.2.1.trans h.2.1, h'.2.2.1.trans h.2.2.1, Nat.le_trans h.size h'.size, fun k hk hl => (h'.block k (Nat.lt_of_lt_of_le hk h.size) hl).trans (h.block k hk hl)⟩
theorem Kept.mono {l l' : List Nat} {a b : World} (h : Kept l a b) (hl : ∀ k, k ∈ l → k ∈ l') : Kept l' a b :=
  ⟨h.1, h.2.1, h.2.2.1, h.size, fun k hk hn => h.block k hk (fun hm => hn (hl k hm))⟩
theorem Kept.ofBelow {l : List Nat} {w w' : World} {B : Nat} (h : Below B w w') (hB : w.heap.size ≤ B) : Kept l w w' := ⟨h.os, h.tape, h.output, h.size, fun k hk _ => h.block k (Nat.lt_of_lt_of_le hk hB)⟩
theorem Kept.toBelow {l : List Nat} {w w' : World} {B : Nat} (h : Kept l w w') (hl : ∀ k, k ∈ l → B ≤ k) (hB : B ≤ w.heap.size) : Below B w w' :=
  ⟨h.1, h.2.1, h.2.2.1, h.size, fun k hk => h.block k (by omega) (fun hm => by have := hl k hm; omega)⟩
theorem Kept.setCell {l : List Nat} {w w' : World} (h : Kept l w w') {b o : Nat} {s : Option Nat} (hb : b ∈ l) (v : Value) : Kept l w (w'.setCell ⟨b, o, s⟩ v) :=
  ⟨h.1, h.2.1, h.2.2.1, by simpa [World.setCell] using h.size, fun k hk hl => (heap_setCell_other w' ⟨b, o, s⟩ k v (by intro e; subst e; exact hl hb)).trans (h.block k hk hl)⟩
theorem Kept.setRow {l : List Nat} {w w' : World} (h : Kept l w w') {b : Nat} (hb : b ∈ l) (c : Array Value) : Kept l w (w'.setRow b c) :=
  ⟨h.1, h.2.1, h.2.2.1, by simpa using h.size, fun k hk hl => (setRow_other w' b k c (by intro e; subst e; exact hl hb)).trans (h.block k hk hl)⟩
theorem Kept.alloc {l : List Nat} {w w' : World} (h : Kept l w w') (o : Obj) : Kept l w (w'.alloc o) :=
  h.trans (Kept.ofBelow ((Below.refl _ w').alloc (Nat.le_refl _) o) (Nat.le_refl _))
theorem Kept.drew {l : List Nat} {w w' : World} (h : Kept l w w') : Kept l w w'.drew := h
theorem Kept.drewN {l : List Nat} {w w' : World} (h : Kept l w w') (n : Nat) : Kept l w (w'.drewN n) := h
theorem Kept.newCell {l : List Nat} {w w' : World} (h : Kept l w w') {b o : Nat} {s : Option Nat} (hb : w.heap.size ≤ b) (v : Value) : Kept l w (w'.setCell ⟨b, o, s⟩ v) :=
  ⟨h.1, h.2.1, h.2.2.1, by simpa [World.setCell] using h.size, fun k hk hl => (heap_setCell_other w' ⟨b, o, s⟩ k v (by intro e; subst e; exact absurd hk (by simpa using hb))).trans (h.block k hk hl)⟩
theorem Kept.grown {l : List Nat} {a w w' : World} {row : Option Nat} (h : Kept l a w) (hg : w.grownBy w' row) (hr : ∀ k, row = some k → k ∈ l ∨ a.heap.size ≤ k) : Kept l a w' :=
  ⟨hg.os.trans h.1, hg.tape.trans h.2.1, hg.output.trans h.2.2.1, Nat.le_trans h.size hg.size, fun k hk hl => (hg.block k (Nat.lt_of_lt_of_le hk h.size) (by
    intro e
    rcases hr k e.symm with h1 | h1
    · exact hl h1
    · omega)).trans (h.block k hk hl)⟩
theorem Kept.cell {l : List Nat} {w w' : World} (h : Kept l w w') (b o : Nat) (hb : b < w.heap.size) (hl : b ∉ l) : w'.cell? ⟨b, o, none⟩ = w.cell? ⟨b, o, none⟩ := World.cell?_of_block (a := ⟨b, o, none⟩) (h.block b hb hl)

theorem SlB.kept {l : List Nat} {w w' : World} {g off len cap : Nat} {xs : List (BitVec 8)} (h : SlB w (.slice (some ⟨g, off, none⟩) len cap) xs) (hk : Kept l w w') (hl : g ∉ l) : SlB w' (.slice (some ⟨g, off, none⟩) len cap) xs := by
  rcases h with ⟨h, rfl⟩ | ⟨b', off', cap', h, h1, h2, h3, h4⟩
  · exact .inl ⟨h, rfl⟩
  · simp only [Value.slice.injEq, Option.some.injEq, Addr.mk.injEq] at h
    obtain ⟨⟨rfl, rfl, _⟩, rfl, rfl⟩ := h
    refine .inr ⟨g, off, cap, rfl, h1, h2, Nat.lt_of_lt_of_le h3 hk.size, fun j hj => ?_⟩
    rw [hk.cell g (off + j) h3 hl]
    exact h4 j hj
/-- A slice that lies apart from the blocks of a frame. -/
theorem SlB.keptV {l : List Nat} {w w' : World} {v : Value} {xs : List (BitVec 8)} (h : SlB w v xs) (hk : Kept l w w') (hl : ∀ k, v.ownBlock = some k → k ∉ l) : SlB w' v xs := by
  rcases h with h | ⟨b, off, cap, rfl, h1, h2, h3, h4⟩
  · exact .inl h
  · exact SlB.kept (.inr ⟨b, off, cap, rfl, h1, h2, h3, h4⟩) hk (hl b rfl)

/-- What a call owns, apart from the blocks of a frame. -/
theorem OwnB.keptV2 {E base : Nat} {l : List Nat} {w w' : World} {v : Value} {xs : List (BitVec 8)} (h : OwnB E base w v xs) (hk : Kept l w w') (hl : ∀ k, k ∈ l → k < base) : OwnB E base w' v xs := by
  refine ⟨h.1, ?_⟩
  rcases h.2 with hn | ⟨g, cap, cur, rfl, h1, hb, h2⟩
  · exact .inl hn
  · refine .inr ⟨g, cap, cur, rfl, h1, ?_, h2⟩
    rw [hk.block g (Array.getElem?_eq_some_iff.1 hb).1 (fun hm => by have := hl g hm; omega)]
    exact hb

theorem splice_map {α β : Type} (f : α → β) (L : List α) (off : Nat) (cs : List α) : (splice L off cs).map f = splice (L.map f) off (cs.map f) := by
  simp [splice, List.map_take, List.map_drop]
theorem bytes_splice (L : List (BitVec 8)) (rest : List Value) (off : Nat) (cs : List (BitVec 8)) (h : off + cs.length ≤ L.length) :
    (bcells (splice L off cs) ++ rest).toArray = ((bcells L ++ rest).toArray.toList.take off ++ (bcells cs ++ (bcells L ++ rest).toArray.toList.drop (off + (bcells cs).length))).toArray := by
  have e : bcells (splice L off cs) = (bcells L).take off ++ (bcells cs ++ (bcells L).drop (off + cs.length)) := by
    simp only [bcells, splice_map]
    simp [splice]
  rw [e, bcells_length]
  congr 1
  rw [List.take_append_of_le_length (by rw [bcells_length]; omega), List.drop_append_of_le_length (by rw [bcells_length]; omega)]
  simp

section
variable {P : Program}
/-- copy(d, s): bytes into a block known whole. -/
theorem wpList_copy_b {ops : Array Oper} {rest : List Oper} {o : Oper} {a : Act} {w : World} {Q : Exit → Act → World → Prop} (hgd : o.guard = none) (d s : Operand) (T E : TypeId)
    (ho : o.op = .call { callee := .builtin .copy, args := #[d, s], argTypes := #[T, T] }) (hu : P.underlying T = some (.slice E)) (hsz : (P.info? E).map (·.size) = some 1)
    (g off dLen dCap : Nat) (u : Value) (ys : List (BitVec 8)) (hd : a.eval d = .slice (some ⟨g, off, none⟩) dLen dCap) (hs : a.eval s = u) (hsl : SlB w u ys)
    (L : List (BitVec 8)) (tl : List Value) (t : TypeId) (hg : w.heap[g]? = some (.cells (bcells L ++ tl).toArray t (0, 0))) (hfit : off + dLen ≤ L.length)
    (h : wpList P ops Q rest (a.put o.dst (goInt (Nat.min ys.length dLen))) (w.setRow g (bcells (splice L off (ys.take dLen)) ++ tl).toArray)) : wpList P ops Q (o :: rest) a w := by
  by_cases h0 : Nat.min ys.length dLen = 0
  · have hn : ys.take dLen = [] := by
      apply List.eq_nil_of_length_eq_zero
      rw [List.length_take, Nat.min_comm]
      exact h0
    obtain ⟨sa, cap, hu'⟩ := hsl.len
    refine wpList_copy_nothing hgd d s T T ho E hu hsz (some ⟨g, off, none⟩) sa dLen dCap ys.length cap hd (by rw [hs, hu']) h0 ?_
    rw [hn, show splice L off [] = L by simp [splice], setRow_self _ _ _ _ _ hg, h0] at h
    exact h
  · rcases hsl with ⟨_, rfl⟩ | ⟨b, off', cap, rfl, h1, h2, h3, h4⟩
    · simp at h0
    · have hlen : (bcells (ys.take dLen)).length = Nat.min ys.length dLen := by
        rw [bcells_length, List.length_take]
        exact Nat.min_comm _ _
      refine wpList_copy_own hgd d s T T ho E hu hsz g off dLen dCap ⟨b, off', none⟩ ys.length cap hd hs (bcells L ++ tl).toArray t hg (bcells (ys.take dLen)) hlen ?_ ?_ (bcells_one _) ?_
      · intro j v hj
        have hlt : j < (ys.take dLen).length := by
          rw [← bcells_length]
          exact (List.getElem?_eq_some_iff.1 hj).1
        rw [bcells_get? _ j hlt] at hj
        obtain rfl : byteV ((ys.take dLen).getD j 0) = v := by simpa using hj
        have hadd : (⟨b, off', none⟩ : Addr).add j = ⟨b, off' + j, none⟩ := by unfold Addr.add; split <;> simp_all
        have hj' : j < ys.length := by
          rw [List.length_take] at hlt
          omega
        have hjd : j < dLen := by
          rw [List.length_take] at hlt
          omega
        rw [hadd, h4 j hj']
        simp [hjd]
      · rw [hlen]
        simp only [List.size_toArray, List.length_append, bcells_length]
        have : Nat.min ys.length dLen ≤ dLen := Nat.min_le_right _ _
        omega
      · rw [hlen, ← hlen, ← bytes_splice L tl off _ (by rw [List.length_take]; omega), hlen]
        exact h
end
end Go.Proofs.YtnoilogepkelaaaDoor
namespace Go.Proofs.YtnoilogepkelaaaDoor
set_option linter.unusedVariables false
set_option linter.unusedSimpArgs false
open Go Go.RowKit Go.Shelf

theorem wpListIn_load_row {F : Fence} {n : Nat} {P : Program} {ops : Array Oper} {rest : List Oper} {o : Oper} {a : Act} {w : World} {Q : Exit → Act → World → Prop} (hgd : o.guard = none) (ty : TypeId) (x : Operand) (ho : o.op = .load ty x)
    (g : Nat) (hx : a.eval x = .pointer (some ⟨g, 0, none⟩)) (t : TypeId) (cs : Array Value) (fr : Nat × Nat) (d : TypeDesc) (hg : w.heap[g]? = some (.cells cs t fr))
    (hu : P.underlying ty = some d) (hd : (match d with | .struct _ | .array _ _ => true | _ => false) = true) (hi : (P.info? ty).map (·.size) = some cs.size)
    (h : wpListIn F n P ops Q rest (a.put o.dst (.agg cs)) w) : wpListIn F n P ops Q (o :: rest) a w := by
  refine wpListIn_plain hgd fun K hK' => ?_
  unfold Oper.wpIn
  refine ⟨?_, ?_⟩
  · simp [Oper.about, ho]
  · rw [Oper.semAt_plain F _ _ (by rw [ho]; intro c hc'; cases hc')]
    unfold execOp
    simp only [ho, hx, Instr.loadAt, Instr.sureAddr, Sem.run_bind, Sem.run_pure, Result.andThen_ok, run_loadVar_row w g t ty cs fr d hg hu hd hi]
    exact hK' _ _ h
theorem wpListIn_store_row {F : Fence} {n : Nat} {P : Program} {ops : Array Oper} {rest : List Oper} {o : Oper} {a : Act} {w : World} {Q : Exit → Act → World → Prop} (hgd : o.guard = none) (ty : TypeId) (x y : Operand) (ho : o.op = .store ty x y)
    (g : Nat) (cells : Array Value) (hx : a.eval x = .pointer (some ⟨g, 0, none⟩)) (hy : a.eval y = .agg cells) (t : TypeId) (old : Array Value) (hg : w.heap[g]? = some (.cells old t (0, 0)))
    (hi : (P.info? ty).map (·.size) = some cells.size) (hz : old.size = cells.size) (hall : cells.all (·.oneCell') = true)
    (h : wpListIn F n P ops Q rest (a.put o.dst undef) (w.setRow g cells)) : wpListIn F n P ops Q (o :: rest) a w := by
  refine wpListIn_plain hgd fun K hK' => ?_
  unfold Oper.wpIn
  refine ⟨?_, ?_⟩
  · simp [Oper.about, ho]
  · rw [Oper.semAt_plain F _ _ (by rw [ho]; intro c hc'; cases hc')]
    unfold execOp
    simp only [ho, hx, hy, Instr.storeAt, Instr.sureAddr, Sem.run_bind, Sem.run_pure, Result.andThen_ok, run_storeVar_row w g t ty old cells hg hi hz hall]
    exact hK' _ _ h
end Go.Proofs.YtnoilogepkelaaaDoor
namespace Go.Proofs.YtnoilogepkelaaaDoor
set_option linter.unusedVariables false
set_option linter.unusedSimpArgs false
open Go Go.RowKit

/-- The text of bytes. -/
def strB (xs : List (BitVec 8)) : ByteArray := strOfNums (xs.map bv)
theorem strB_nil : strB [] = ByteArray.empty := rfl
theorem strB_size (xs : List (BitVec 8)) : (strB xs).size = xs.length := by simp [strB, strOfNums_size]
theorem strB_inj {xs ys : List (BitVec 8)} (h : strB xs = strB ys) : xs = ys := by
  have hd : (strOfNums (xs.map bv)).data.toList = (strOfNums (ys.map bv)).data.toList := by unfold strB at h; rw [h]
  rw [strOfNums_data, strOfNums_data, List.map_map, List.map_map] at hd
  have hf : ∀ x : BitVec 8, (UInt8.ofNat (bv x).toNat).toBitVec = x := fun x => by
    apply BitVec.eq_of_toNat_eq
    have := x.isLt
    simp [bv]
  have h2 := congrArg (List.map UInt8.toBitVec) hd
  simp only [List.map_map] at h2
  have e : (UInt8.toBitVec ∘ (fun n : Int => UInt8.ofNat n.toNat) ∘ bv) = id := by funext x; exact hf x
  rwa [e, List.map_id, List.map_id] at h2
theorem conv_any {w : World} {v : Value} {xs : List (BitVec 8)} (h : SlB w v xs) : (convert 22 9 v).run Tryd.prog w = .ok (.string (strB xs)) w := by
  rcases h with ⟨⟨_ | ad, rfl⟩, rfl⟩ | ⟨b, off, cap, rfl, h1, h2, h3, h4⟩
  · rw [strB_nil]
    exact run_convert_bytes_nil w 22 5 Tryd.underlying22 Tryd.underlying5 0 0 9 Tryd.underlying9
  · rw [run_convert_bytes_string w 22 9 5 _ 0 0 Tryd.underlying22 Tryd.underlying5 Tryd.underlying9, run_bytesToString w _ 0 0 [] (by simp [loadCells, loadCellsFrom])]
    rfl
  · refine run_convert_bytes_arg w 22 5 Tryd.underlying22 Tryd.underlying5 b off xs.length cap (xs.map bv) (by simp) (fun i hi => ?_) 9 Tryd.underlying9
    rw [h4 i hi]
    simp [byteV, List.getD, List.getElem?_map, List.getElem?_eq_getElem hi]
/-- Where a slice's bytes lie. -/
theorem SlB.lt {w : World} {v : Value} {xs : List (BitVec 8)} (h : SlB w v xs) (hx : xs ≠ []) : ∀ k, v.ownBlock = some k → k < w.heap.size := by
  rcases h with ⟨_, rfl⟩ | ⟨b, off, cap, rfl, h1, h2, h3, h4⟩
  · exact absurd rfl hx
  · intro k hk
    simp only [Value.ownBlock, Option.some.injEq] at hk
    subst hk
    exact h3
/-- A slice lies apart from new blocks. -/
theorem SlB.keptN {l : List Nat} {w w' : World} {v : Value} {xs : List (BitVec 8)} {B : Nat} (h : SlB w v xs) (hk : Kept l w w') (hl : ∀ k, k ∈ l → B ≤ k) (hv : xs ≠ [] → ∀ k, v.ownBlock = some k → k < B) : SlB w' v xs := by
  by_cases hx : xs = []
  · subst hx
    rcases h with h | ⟨b, off, cap, rfl, h1, h2, h3, h4⟩
    · exact .inl h
    · exact .inr ⟨b, off, cap, rfl, h1, h2, Nat.lt_of_lt_of_le h3 hk.size, fun j hj => absurd hj (by simp)⟩
  · exact h.keptV hk (fun k e hm => by have := hl k hm; have := hv hx k e; omega)
/-- The first k bytes. -/
theorem SlB.upTo {w : World} {a : Option Addr} {len cap : Nat} {xs : List (BitVec 8)} (h : SlB w (.slice a len cap) xs) (k : Nat) (hk : k ≤ len) : SlB w (.slice a k cap) (xs.take k) := by
  rcases h with ⟨⟨a', e⟩, rfl⟩ | ⟨b, off, c, e, h1, h2, h3, h4⟩
  · simp only [Value.slice.injEq] at e
    obtain ⟨rfl, rfl, rfl⟩ := e
    obtain rfl : k = 0 := by omega
    exact .inl ⟨⟨_, rfl⟩, by simp⟩
  · simp only [Value.slice.injEq] at e
    obtain ⟨rfl, rfl, rfl⟩ := e
    exact SlB.take (.inr ⟨b, off, cap, rfl, h1, h2, h3, h4⟩) k hk
/-- The bytes from k on, as the walk spells the slice. -/
def fromV (a : Option Addr) (n cap k : Nat) : Value := .slice (if cap = k then a else a.map (fun x => x.add k)) (n - k) (cap - k)
theorem SlB.from_ {w : World} {a : Option Addr} {len cap : Nat} {xs : List (BitVec 8)} (h : SlB w (.slice a len cap) xs) (k : Nat) (hk : k ≤ len) : SlB w (fromV a len cap k) (xs.drop k) := by
  unfold fromV
  rcases h with ⟨⟨a', e⟩, rfl⟩ | ⟨b, off, c, e, h1, h2, h3, h4⟩
  · simp only [Value.slice.injEq] at e
    obtain ⟨rfl, rfl, rfl⟩ := e
    obtain rfl : k = 0 := by omega
    exact .inl ⟨⟨_, rfl⟩, by simp⟩
  · simp only [Value.slice.injEq] at e
    obtain ⟨rfl, rfl, rfl⟩ := e
    have hd := SlB.drop (.inr ⟨b, off, cap, rfl, h1, h2, h3, h4⟩) k hk
    by_cases hc : cap = k
    · rw [if_pos hc]
      rw [show xs.length - k = 0 by omega, show cap - k = 0 by omega, List.drop_of_length_le (by omega)]
      exact .inl ⟨⟨_, rfl⟩, rfl⟩
    · rw [if_neg hc]
      have ha : (⟨b, off, none⟩ : Addr).add k = ⟨b, off + k, none⟩ := by unfold Addr.add; split <;> simp_all
      simp only [Option.map_some, ha]
      exact hd
/-- make([]byte, n) of a constant n. -/
theorem made_bytes (n : Nat) (hn : n ≤ 1000000) (w : World) : (Instr.makeSlice 22 (.int .i64 (n : Int)) (.int .i64 (n : Int))).run Tryd.prog w = .ok (.slice (some ⟨w.heap.size, 0, none⟩) n n) (w.alloc (.cells (bytes (List.replicate n 0)) 5)) := by
  obtain ⟨i, hi, hz, hsz, hby⟩ := info_parts info_u8
  have hm := run_makeSlice (P := Tryd.prog) w 22 5 i (.int .u8 0) Tryd.underlying22 hi hz .i64 .i64 (n : Int) (n : Int) (by omega) (by omega) (by rw [hsz]; omega) (by rw [hby]; omega) (by omega)
  rw [hsz, Int.toNat_natCast, Nat.mul_one] at hm
  have hc : madeCells (Value.int .u8 0).cells n = bytes (List.replicate n 0) := by
    have e0 : (Value.int .u8 0).cells = #[.int .u8 0] := rfl
    apply Array.ext_getElem?
    intro j
    by_cases hj : j < n
    · rw [bytes_get? _ j (by simpa using hj)]
      simp [madeCells, e0, hj, bv, Nat.mod_one]
    · rw [Array.getElem?_eq_none (by rw [size_madeCells]; omega), Array.getElem?_eq_none (by rw [bytes_size]; simp; omega)]
  rw [hc] at hm
  exact hm
end Go.Proofs.YtnoilogepkelaaaDoor
namespace Go.Proofs.YtnoilogepkelaaaDoor
set_option linter.unusedVariables false
set_option linter.unusedSimpArgs false
open Go Go.RowKit Go.WideShapes Go.ChangeShapes

theorem block_lt_of_cell {w : World} {a : Addr} {v : Value} (h : w.cell? a = some v) : a.block < w.heap.size ∧ a.spot = none := by
  unfold World.cell? at h
  split at h
  · rename_i c t f hc
    refine ⟨(Array.getElem?_eq_some_iff.1 hc).1, ?_⟩
    cases hs : a.spot with
    | none => rfl
    | some s => simp [hs] at h
  · simp at h
theorem add_spot (a : Addr) (i : Nat) (h : a.spot = none) : a.add i = ⟨a.block, a.off + i, none⟩ := by
  unfold Addr.add
  split
  · obtain ⟨b, o, s⟩ := a
    simp_all
  · rfl

section
variable {H : Type} {enc : TypeId × Value → H} {P : Program} {w : World} {fuel : Nat} {t e : TypeId} {cs : List Value} {x : DataW H × List MemPlace}

theorem tr_byte (he : P.underlying e = some (.int .u8)) (h : DataW.trod enc P w 0 (fun _ => true) true fuel e cs = some x) : ∃ b : BitVec 8, cs = [byteV b] := by
  obtain ⟨n, rfl, _, hw⟩ := DataW.trod_int he h
  have hb : 0 ≤ n ∧ n ≤ 255 := by simpa [Lit.wf, IntKind.min, IntKind.max, IntKind.bits, IntKind.signed] using hw
  obtain ⟨b, rfl⟩ := bv_of (n := n) (by omega) (by omega)
  exact ⟨b, rfl⟩
theorem tr_int (he : P.underlying e = some (.int .i64)) (h : DataW.trod enc P w 0 (fun _ => true) true fuel e cs = some x) : ∃ n : Int, cs = [.int .i64 n] ∧ -9223372036854775808 ≤ n ∧ n ≤ 9223372036854775807 := by
  obtain ⟨n, rfl, _, hw⟩ := DataW.trod_int he h
  exact ⟨n, rfl, by simpa [Lit.wf, IntKind.min, IntKind.max, IntKind.bits, IntKind.signed] using hw⟩
theorem tr_bool (he : P.underlying e = some .bool) (h : DataW.trod enc P w 0 (fun _ => true) true fuel e cs = some x) : ∃ b : Bool, cs = [.bool b] := by
  obtain ⟨b, rfl, _⟩ := DataW.trod_bool he h
  exact ⟨b, rfl⟩
theorem list_of_parts {α : Type} (f : α → Value) : ∀ (n : Nat) (cs : List Value), cs.length = n → (∀ i, i < n → ∃ a, (cs.drop i).take 1 = [f a]) → ∃ xs : List α, xs.length = n ∧ cs = xs.map f
  | 0, cs, hl, _ => ⟨[], rfl, List.eq_nil_of_length_eq_zero hl⟩
  | n + 1, [], hl, _ => by simp at hl
  | n + 1, c :: cs, hl, h => by
    obtain ⟨a, ha⟩ := h 0 (by omega)
    obtain ⟨xs, h1, h2⟩ := list_of_parts f n cs (by simpa using hl) (fun i hi => by simpa using h (i + 1) (by omega))
    refine ⟨a :: xs, by simp [h1], ?_⟩
    simp at ha
    rw [ha, h2]
    rfl
theorem tr_bytes {n : Nat} (ht : P.underlying t = some (.array n e)) (he : P.underlying e = some (.int .u8)) (hc : P.cellsOf e = 1) (hct : P.cellsOf t = n) (h : DataW.trod enc P w 0 (fun _ => true) true fuel t cs = some x) :
    ∃ xs : List (BitVec 8), xs.length = n ∧ cs = bcells xs := by
  obtain ⟨ys, m, _, _, hl, hyl, hf⟩ := DataW.trod_array ht h
  refine list_of_parts byteV n cs (hl.trans hct) fun i hi => ?_
  have := hf i hi
  rw [hc, Nat.mul_one] at this
  obtain ⟨y, hy⟩ : ∃ y, ys[i]? = some y := ⟨_, List.getElem?_eq_getElem (by omega)⟩
  exact tr_byte he (this.trans hy)
theorem tr_sl (ht : P.underlying t = some (.slice e)) (he : P.underlying e = some (.int .u8)) (hc : P.cellsOf e = 1) (h : DataW.trod enc P w 0 (fun _ => true) true fuel t cs = some x) :
    ∃ (v : Value) (xs : List (BitVec 8)), cs = [v] ∧ SlB w v xs := by
  rcases open_ints ht he hc h with ⟨rfl, _⟩ | ⟨a, len, cap, zs, rfl, _, hl, hm, hz, _, hcell, hwf⟩
  · exact ⟨_, [], rfl, SlB.nil _⟩
  · simp only [if_true] at hz
    by_cases h0 : cap = 0
    · subst h0
      obtain rfl : len = 0 := by omega
      exact ⟨_, [], rfl, .inl ⟨⟨_, rfl⟩, rfl⟩⟩
    · have g0 := hcell 0 (by omega)
      have ha : a.add 0 = a := rfl
      rw [ha] at g0
      obtain ⟨hb, hs⟩ := block_lt_of_cell g0
      refine ⟨_, (zs.take len).map fun n => BitVec.ofNat 8 n.toNat, rfl, .inr ⟨a.block, a.off, cap, ?_, by simp; omega, hm, hb, ?_⟩⟩
      · obtain ⟨b, o, s⟩ := a
        obtain rfl : s = none := hs
        have : min len zs.length = len := by omega
        simp [this]
      · intro j hj
        simp at hj
        have g := hcell j (by omega)
        rw [add_spot _ _ hs] at g
        rw [g]
        have hj' : j < zs.length := by omega
        have hw := hwf (zs.getD j 0) (by simp [List.getD, hj'])
        have hb' : 0 ≤ zs.getD j 0 ∧ zs.getD j 0 ≤ 255 := by simpa [Lit.wf, IntKind.min, IntKind.max, IntKind.bits, IntKind.signed] using hw
        have e1 : ((zs.take len).map fun n => BitVec.ofNat 8 n.toNat).getD j 0 = BitVec.ofNat 8 (zs.getD j 0).toNat := by
          simp [List.getD, hj', show j < len by omega]
        rw [e1]
        unfold byteV bv
        rw [BitVec.toNat_ofNat]
        congr 2
        omega
theorem cut_at (cs : List Value) (k n : Nat) : cs.drop k = (cs.drop k).take n ++ cs.drop (k + n) := by rw [← List.drop_drop, List.take_append_drop]
/-- A slice argument's value. -/
theorem slice_form {r : Reach} {base : Nat} {v : Value} (ht : P.underlying t = some (.slice e)) (h : Value.okWide P w r base t v) : ∃ a l c, v = .slice a l c := by
  unfold Value.okWide Cell.okWide Cell.ok at h
  rw [ht] at h
  cases v <;> simp at h <;> exact ⟨_, _, _, rfl⟩
theorem agg_form {r : Reach} {base : Nat} {v : Value} {fs : Array Field} (ht : P.underlying t = some (.struct fs)) (h : Value.okWide P w r base t v) : ∃ cs, v = .agg cs := by
  unfold Value.okWide at h
  rw [ht] at h
  obtain ⟨cs, rfl, _⟩ := h
  exact ⟨cs, rfl⟩
theorem okWide_cell {r : Reach} {base : Nat} {v : Value} {d : TypeDesc} (ht : P.underlying t = some d) (hd : (match d with | .struct _ | .array _ _ => true | _ => false) = false) (h : Value.okWide P w r base t v) : Cell.okWide P w r base t v := by
  unfold Value.okWide at h
  rw [ht] at h
  cases d <;> simp at hd <;> exact h
/-- A slice of bytes as an argument. -/
theorem open_slice8 {r : Reach} {base : Nat} {v : Value} {d : DataW H} {ps : List MemPlace} (ht : P.underlying t = some (.slice e)) (he : P.underlying e = some (.int .u8)) (hc : P.cellsOf e = 1) (hv : Value.okWide P w r base t v)
    (h : DataW.Trod enc P w 0 (fun _ => true) true t v d ps) : ∃ xs : List (BitVec 8), SlB w v xs := by
  obtain ⟨a, l, c, rfl⟩ := slice_form ht hv
  obtain ⟨m, hm⟩ := h
  obtain ⟨v', xs, e, hs⟩ := tr_sl ht he hc hm
  obtain rfl : Value.slice a l c = v' := by simpa [Value.cells] using e
  exact ⟨xs, hs⟩
/-- A slice of whatever elements, of so many cells each. -/
theorem tr_slice {sz : Nat} (ht : P.underlying t = some (.slice e)) (hc : P.cellsOf e = sz) (h0 : 0 < sz) (h : DataW.trod enc P w 0 (fun _ => true) true fuel t cs = some x) :
    ∃ (a : Option Addr) (len cap : Nat), cs = [.slice a len cap] ∧ len ≤ cap ∧ cap ≤ maxLen ∧ (0 < len → ∃ b off, a = some ⟨b, off, none⟩ ∧ b < w.heap.size ∧ ∀ i, i < len →
      ∃ cs' : List Value, cs'.length = sz ∧ (∀ j u, cs'[j]? = some u → w.cell? ⟨b, off + i * sz + j, none⟩ = some u) ∧ ∃ (n : Nat) (y : DataW H × List MemPlace), DataW.trod enc P w 0 (fun _ => true) true n e cs' = some y) := by
  rcases Deep.open_slice ht h with ⟨rfl, _⟩ | ⟨a, len, cap, m, n, D, Pl, rfl, _, hl, hm, hmm, _, hx⟩
  · exact ⟨none, 0, 0, rfl, Nat.le_refl _, Nat.zero_le _, fun h => absurd h (by omega)⟩
  · simp only [if_true] at hmm
    subst hmm
    refine ⟨some a, len, m, rfl, hl, hm, fun hp => ?_⟩
    rw [hc] at hx
    have hspot : a.block < w.heap.size ∧ a.spot = none := by
      obtain ⟨cs', h1, _⟩ := hx 0 (by omega)
      obtain ⟨_, hlen, hcell⟩ := World.cells?_some h1
      have g : (0 : Nat) < cs'.length := by omega
      have := hcell 0 (by omega)
      rw [List.getElem?_eq_getElem g] at this
      have ha : (a.add (0 * sz)).add 0 = a := by rw [Nat.zero_mul]; rfl
      rw [ha] at this
      exact block_lt_of_cell this
    refine ⟨a.block, a.off, ?_, hspot.1, fun i hi => ?_⟩
    · obtain ⟨b, o, s⟩ := a
      obtain rfl : s = none := hspot.2
      rfl
    · obtain ⟨cs', h1, h2⟩ := hx i (by omega)
      obtain ⟨_, hlen, hcell⟩ := World.cells?_some h1
      refine ⟨cs', hlen, fun j u hu => ?_, n, _, h2⟩
      have hj : j < sz := by rw [← hlen]; exact (List.getElem?_eq_some_iff.1 hu).1
      have g := hcell j hj
      rw [add_spot a _ hspot.2, add_spot _ _ rfl, hu] at g
      exact g
end
end Go.Proofs.YtnoilogepkelaaaDoor
namespace Go.Proofs.YtnoilogepkelaaaDoor
set_option linter.unusedVariables false
set_option linter.unusedSimpArgs false
open Go Go.RowKit
section
variable {P : Program} {ops : Array Oper} {o : Oper} {a : Act} {w : World}
/-- What follows: K behind the operation, Q at a panic. -/
def orElse (K : Act → World → Prop) (Q : Exit → Act → World → Prop) : Exit → Act → World → Prop
  | .normal, a, w => K a w
  | .outgrown, _, _ => False
  | x, a, w => Q x a w
theorem wp_orElse {K : Act → World → Prop} {Q : Exit → Act → World → Prop} (h : Oper.wp P o a w K (orElse K Q)) : Oper.wp P o a w K Q := by
  unfold Oper.wp at h ⊢
  generalize (execOp a.eval o).run P w = r at *
  cases r with
  | ok n w' =>
    cases n <;> simp only [Oper.upon] at h ⊢
    case value u => exact h
    case skip => exact h
    case defer d => exact h
    case enter f args =>
      refine Calls.mono h fun e w'' he => ?_
      cases e with
      | returned u => exact he
      | panicked c => exact he
      | outgrown => exact he.elim fun _ h => h.elim fun _ h => h.elim
    case row r args => exact h
  | halt x w' =>
    cases x <;> simp only [Oper.upon] at h ⊢
    case panic u => exact h
/-- A step of a drawn region, by a law on the list of a plain region's operations. -/
theorem any_of_list {K : Act → World → Prop} {Q : Exit → Act → World → Prop} {E : Prop} (hw : Region.wanted o (yielded ops a.tmps) = true)
    (h : ∀ Q' : Exit → Act → World → Prop, (∀ a w, K a w → Q' .normal a w) → wpList P ops Q' [{ o with guard := none }] a w) : if Region.wanted o (yielded ops a.tmps) = true then Oper.wp P o a w K Q else E := by
  rw [if_pos hw]
  have h1 := h (orElse K Q) (fun _ _ h => h)
  unfold wpList at h1
  rw [if_pos (by simp [Region.wanted])] at h1
  have e : ∀ K Q, Oper.wp P { o with guard := none } a w K Q = Oper.wp P o a w K Q := fun _ _ => rfl
  rw [e] at h1
  exact h1.elim wp_orElse fun h2 => h2.2.elim fun _ h => h.elim fun _ h => h.elim
end
theorem rng_below {w w' : World} {B R o : Nat} {cs : List Value} (h : w.rangeAt R o cs) (hb : Below B w w') (hR : R < B) : w'.rangeAt R o cs :=
  fun j v hj => (World.cell?_of_block (a := ⟨R, o + j, none⟩) (hb.block R hR)).trans (h j v hj)
theorem rng_of_row (w : World) (R : Nat) (cs : Array Value) (t : TypeId) (fr : Nat × Nat) (h : w.heap[R]? = some (.cells cs t fr)) : w.rangeAt R 0 cs.toList :=
  fun j v hj => by rw [Nat.zero_add, cell_of_row w R j _ _ _ h, ← hj, Array.getElem?_toList]
theorem rng_grown {w w' : World} {R o : Nat} {cs : List Value} {row : Option Nat} (h : w.rangeAt R o cs) (hg : w.grownBy w' row) (hR : R < w.heap.size) (hne : row ≠ some R) : w'.rangeAt R o cs :=
  fun j v hj => (World.cell?_of_block (a := ⟨R, o + j, none⟩) (hg.block R hR (fun e => hne e.symm))).trans (h j v hj)
theorem rng_bel {w w' : World} {R : Nat} {cs : Array Value} {t : TypeId} {fr : Nat × Nat} (h : w.heap[R]? = some (.cells cs t fr)) (hb : Below w.heap.size w w') : w'.rangeAt R 0 cs.toList :=
  rng_of_row w' R cs t fr ((hb.block R (Array.getElem?_eq_some_iff.1 h).1).trans h)
theorem bytes_bcells (L : List (BitVec 8)) : (bcells L ++ []).toArray = bytes L := by simp [bytes, bcells, byteV]
section
variable {P : Program}
/-- copy(arr[:], s): into an array known whole. -/
theorem wpList_copy_arr {ops : Array Oper} {rest : List Oper} {o : Oper} {a : Act} {w : World} {Q : Exit → Act → World → Prop} (hgd : o.guard = none) (d s : Operand) (T E : TypeId)
    (ho : o.op = .call { callee := .builtin .copy, args := #[d, s], argTypes := #[T, T] }) (hu : P.underlying T = some (.slice E)) (hsz : (P.info? E).map (·.size) = some 1)
    (g dLen dCap : Nat) (u : Value) (ys : List (BitVec 8)) (hd : a.eval d = .slice (some ⟨g, 0, none⟩) dLen dCap) (hs : a.eval s = u) (hsl : SlB w u ys)
    (L : List (BitVec 8)) (t : TypeId) (hg : w.heap[g]? = some (.cells (bytes L) t (0, 0))) (hfit : dLen = L.length)
    (h : wpList P ops Q rest (a.put o.dst (goInt (Nat.min ys.length dLen))) (w.setRow g (bytes (ys.take L.length ++ L.drop ys.length)))) : wpList P ops Q (o :: rest) a w := by
  refine wpList_copy_b hgd d s T E ho hu hsz g 0 dLen dCap u ys hd hs hsl L [] t (by rw [bytes_bcells]; exact hg) (by omega) ?_
  rw [bytes_bcells, hfit]
  rw [hfit] at h
  have e : splice L 0 (ys.take L.length) = ys.take L.length ++ L.drop ys.length := by
    simp only [splice, List.take_zero, List.nil_append, Nat.zero_add]
    congr 1
    rw [List.length_take]
    by_cases hc : L.length ≤ ys.length
    · rw [List.drop_of_length_le (by omega), List.drop_of_length_le (by omega)]
    · rw [Nat.min_eq_right (by omega)]
  rw [e]
  exact h
end
end Go.Proofs.YtnoilogepkelaaaDoor
namespace Go.Proofs.YtnoilogepkelaaaDoor
set_option linter.unusedVariables false
set_option linter.unusedSimpArgs false
open Go Go.RowKit
/-- The world with a constant text's bytes. -/
def konst (w : World) (xs : List (BitVec 8)) : World := markS (w.alloc (.cells (bytes xs) 5)) w.heap.size
theorem konst_size (w : World) (xs : List (BitVec 8)) : (konst w xs).heap.size = w.heap.size + 1 := by simp [konst, markS_size]
theorem konst_below (w : World) (xs : List (BitVec 8)) : Below w.heap.size w (konst w xs) := Below.markS ((Below.refl _ w).alloc (Nat.le_refl _) _) _ (Nat.le_refl _)
theorem konst_sl (w : World) (xs : List (BitVec 8)) (hl : xs.length ≤ 1000000) : SlB (konst w xs) (.slice (some ⟨w.heap.size, 0, none⟩) xs.length xs.length) xs :=
  .inr ⟨w.heap.size, 0, xs.length, rfl, Nat.le_refl _, by unfold maxLen; omega, by rw [konst_size]; omega, fun j hj => by
    unfold konst
    rw [markS_cell, cell_of_row _ _ _ _ _ _ (heap_alloc_new w _), Nat.zero_add, bytes_get? xs j hj]
    rfl⟩
theorem konst_conv (xs : List (BitVec 8)) (w : World) (n : Nat) : (convert 22 22 (.slice (some ⟨w.heap.size, 0, none⟩) n n)).run Tryd.prog (w.alloc (.cells (bytes xs) 5)) = .ok (.slice (some ⟨w.heap.size, 0, none⟩) n n) (konst w xs) :=
  run_convert_same (P := Tryd.prog) _ 22 5 _ 0 n n Tryd.underlying22 Tryd.underlying5 (by rw [shape?_at _ _ _ _ rfl]; rfl)
end Go.Proofs.YtnoilogepkelaaaDoor
namespace Go.Proofs.YtnoilogepkelaaaDoor
set_option linter.unusedVariables false
set_option linter.unusedSimpArgs false
open Go Go.RowKit
section
variable {P : Program}
/-- A guarded operation that is wanted, in a plain region, by a law on operations without a guard. -/
theorem wpList_unguard {ops : Array Oper} {rest : List Oper} {o : Oper} {a : Act} {w : World} {Q : Exit → Act → World → Prop} (hw : Region.wanted o (yielded ops a.tmps) = true)
    (h : wpList P ops Q ({ o with guard := none } :: rest) a w) : wpList P ops Q (o :: rest) a w := by
  unfold wpList at h ⊢
  rw [if_pos (by simp [Region.wanted])] at h
  rw [if_pos hw]
  exact h
theorem OwnB.appended {E base : Nat} {T ty : TypeId} {w w' : World} {v v' : Value} {xs ys : List (BitVec 8)} {ad : Addr} {c : Nat} (ht : P.underlying T = some (.slice E))
    (hi : (P.info? E).map (fun i => (i.zero, i.size, i.bytes)) = some (some (.int .u8 0), 1, 1)) (hown : OwnB E base w v xs) (hnews : ∀ j u, (bcells ys)[j]? = some u → w.cell? (ad.add j) = some u)
    (hlen : xs.length + ys.length ≤ 1000000000) (hr : (Builtin.append_ #[T, T] ty #[v, .slice (some ad) ys.length c]).run P w = .ok v' w') : OwnB E base w' v xs := by
  obtain ⟨i, hi0, hz, hsz, hby⟩ := info_parts hi
  have hn : (bcells ys).length = ys.length * i.size := by rw [bcells_length, hsz, Nat.mul_one]
  rcases hown.2 with ⟨rfl, hx0⟩ | ⟨g, cap, cur, rfl, hbg, hg, hnc, hcm, hcs, htake⟩
  · exact ⟨hown.1, .inl ⟨rfl, hx0⟩⟩
  · by_cases hroom : xs.length + ys.length ≤ cap
    · have hfit : xs.length * i.size + (bcells ys).length ≤ cur.size := by rw [bcells_length, hsz, hcs]; omega
      have h2 := run_append_room (P := P) w T ty E i ht hi0 g xs.length cap cur hg ad ys.length c (bcells ys) hn hnews (bcells_one ys) hroom hfit
      have e := hr.symm.trans h2
      obtain ⟨_, rfl⟩ : _ ∧ w' = _ := by simpa using e
      refine ⟨hown.1, .inr ⟨g, cap, _, rfl, hbg, setRow_heap w g cur _ E _ hg, hnc, hcm, ?_, ?_⟩⟩
      · simp only [List.size_toArray, List.length_append, List.length_take, List.length_drop, Array.length_toList]
        omega
      · simp only [Nat.mul_one] at htake
        simp only [hsz, Nat.mul_one]
        rw [htake]
        exact List.take_left' (bcells_length xs)
    · have hol : (bcells xs).length = xs.length * i.size := by rw [bcells_length, hsz, Nat.mul_one]
      have holds : ∀ j u, (bcells xs)[j]? = some u → w.cell? ((⟨g, 0, none⟩ : Addr).add j) = some u := World.ownsRow.cells hown (g := g) rfl
      have h2 := run_append_grow (P := P) w T ty E i (.int .u8 0) ht hi0 hz ⟨g, 0, none⟩ xs.length cap (bcells xs) hol holds ad ys.length c (bcells ys) hn hnews (by omega) (by omega) (growslice_fits (by omega) (by rw [hby]; omega))
      have e := hr.symm.trans h2
      obtain ⟨_, rfl⟩ : _ ∧ w' = _ := by simpa using e
      exact hown.grown (row := none) ⟨rfl, rfl, rfl, by simp, fun k hk _ => Below.heap_alloc w.drew _ k hk⟩ (by simp [Value.ownBlock])
/-- append(s, x...): the new slice, and the old one. -/
theorem wpList_append_b2 {ops : Array Oper} {rest : List Oper} {o : Oper} {a : Act} {w : World} {Q : Exit → Act → World → Prop} (hgd : o.guard = none) (s x : Operand) (T E : TypeId)
    (ho : o.op = .call { callee := .builtin .append, args := #[s, x], argTypes := #[T, T] }) (ht : P.underlying T = some (.slice E))
    (hi : (P.info? E).map (fun i => (i.zero, i.size, i.bytes)) = some (some (.int .u8 0), 1, 1)) (base : Nat)
    (v : Value) (xs : List (BitVec 8)) (hown : OwnB E base w v xs) (hs : a.eval s = v) (u : Value) (ys : List (BitVec 8)) (hsl : SlB w u ys) (h0 : 0 < ys.length) (hx : a.eval x = u)
    (hlen : xs.length + ys.length ≤ 1000000000) (hbase : base ≤ w.heap.size)
    (h : ∀ v' w', OwnB E base w' v' (xs ++ ys) → w.grownBy w' v.ownBlock → OwnB E base w' v xs → wpList P ops Q rest (a.put o.dst v') w') : wpList P ops Q (o :: rest) a w := by
  obtain ⟨i, hi0, hz, hsz, hby⟩ := info_parts hi
  rcases hsl with ⟨⟨ad, rfl⟩, rfl⟩ | ⟨b, off, cap, rfl, h1, h2, h3, h4⟩
  · simp at h0
  · have hnews : ∀ j u, (bcells ys)[j]? = some u → w.cell? ((⟨b, off, none⟩ : Addr).add j) = some u := by
      intro j y hj
      have hlt : j < ys.length := by
        rw [← bcells_length]
        exact (List.getElem?_eq_some_iff.1 hj).1
      rw [bcells_get? ys j hlt] at hj
      obtain rfl : byteV (ys.getD j 0) = y := by simpa using hj
      have hadd : (⟨b, off, none⟩ : Addr).add j = ⟨b, off + j, none⟩ := by unfold Addr.add; split <;> simp_all
      rw [hadd]
      exact h4 j hlt
    obtain ⟨v', w', hr, how, hg, _⟩ := run_append_own (P := P) w base T o.type E i (.int .u8 0) 1 1 ht hi0 hz hsz hby rfl (by decide) v xs.length (bcells xs) hown ⟨b, off, none⟩ ys.length cap (bcells ys) (by simp [bcells]) hnews (bcells_one ys) (by unfold maxLen; omega) (by omega) hbase
    refine Lib.wpList_append_run w hgd s x T T ho _ _ hs hx v' w' hr (h v' w' (by simpa [OwnB, bcells_append] using how) hg (hown.appended ht hi hnews hlen hr))
end
end Go.Proofs.YtnoilogepkelaaaDoor
namespace Go.Proofs.YtnoilogepkelaaaDoor
set_option linter.unusedVariables false
set_option linter.unusedSimpArgs false
open Go Go.RowKit Go.Shelf
attribute [local go_sem] Oper.semAt_some

/-- The blocks of so many bytes. -/
abbrev Blk (n : Nat) := { k : Nat // 64 * k < n }
def chunkV (b off n k : Nat) : Value := .slice (some ⟨b, off + 64 * k, none⟩) (min 64 (n - 64 * k)) (min 64 (n - 64 * k))
/-- What lies in two blocks stays. -/
def KeepsTwo (b1 b2 : Nat) (W W' : World) : Prop := W'.heap[b1]? = W.heap[b1]? ∧ W'.heap[b2]? = W.heap[b2]?
theorem keepsTwo_t {b1 b2 : Nat} {A B C : World} (h : KeepsTwo b1 b2 A B) (k : KeepsTwo b1 b2 B C) : KeepsTwo b1 b2 A C := ⟨k.1.trans h.1, k.2.trans h.2⟩
theorem keepsTwo_b {b1 b2 : Nat} {w : World} (h1 : b1 < w.heap.size) (h2 : b2 < w.heap.size) (W : World) (l : Nat) (o o' : Obj) (hl : w.heap.size ≤ l) (h : W.heap[l]? = some o) (_ : o.isCells = false) (_ : o.isWalk = false) : KeepsTwo b1 b2 W (W.putObj l o') :=
  ⟨World.putObj_heap_other (by omega), World.putObj_heap_other (by omega)⟩
theorem KeepsTwo.cell1 {b1 b2 : Nat} {W W' : World} (h : KeepsTwo b1 b2 W W') (o : Nat) : W'.cell? ⟨b1, o, none⟩ = W.cell? ⟨b1, o, none⟩ := World.cell?_of_block (a := ⟨b1, o, none⟩) h.1
theorem KeepsTwo.cell2 {b1 b2 : Nat} {W W' : World} (h : KeepsTwo b1 b2 W W') (o : Nat) : W'.cell? ⟨b2, o, none⟩ = W.cell? ⟨b2, o, none⟩ := World.cell?_of_block (a := ⟨b2, o, none⟩) h.2

set_option maxRecDepth 100000 in
set_option maxHeartbeats 2000000 in
theorem chunk1_in (F : Fence) (n : Nat) (hF : F.fn 97) (hro : F.round = none) (hn : 1 ≤ n) (l Bs Bn b off len cap : Nat) (hlc : len ≤ cap) (hcap : len ≤ 1000000000) (J Jx : List (Blk len) → World → Prop)
    (W : World) (hJ : AbidesFrom W.heap.size J)
    (hY : ∀ pre (x : Blk len) W, J pre W → pre.length < len → YieldAt F (n - 1) Tryd.prog l #[chunkV b off len x.1] W fun e W' =>
      (e = .returned (.bool true) ∧ J (pre ++ [x]) W' ∧ KeepsTwo Bs Bn W W') ∨ (e = .returned (.bool false) ∧ Jx (pre ++ [x]) W'))
    (hBs : W.cell? ⟨Bs, 0, none⟩ = some (.slice (some ⟨b, off, none⟩) len cap)) (hBn : W.cell? ⟨Bn, 0, none⟩ = some (.int .i64 64)) (h0 : J [] W) :
    CallsIn F n Tryd.prog 97 #[.func (.yield l) #[] #[], .pointer (some ⟨Bs, 0, none⟩), .pointer (some ⟨Bn, 0, none⟩)] W fun e W' => (∃ v, e = .returned v) ∧
      ((∃ ys : List (Blk len), ys.map (·.1) = List.range ((len + 63) / 64) ∧ J ys W') ∨ (∃ pre, Jx pre W')) := by
  refine callsIn_of_wp Tryd.func97 rfl hF ?_ hro
  simp only [Tryd.ntmps97, List.size_toArray, List.length_cons, List.length_nil, Nat.reduceAdd, Nat.reduceSub, Array.replicate_succ, Array.replicate_zero, List.push_toArray, List.append_toArray, List.nil_append, List.cons_append]
  gi_wp2
  gi_loopw [4] (fun i wr => ∃ (k : Nat) (pre : List (Blk len)), i = .int .i64 ((64 * k : Nat) : Int) ∧ 64 * k < len + 64 ∧ Hid (pre.map (·.1) = List.range k) ∧ Hid (J pre wr) ∧ wr.cell? ⟨Bs, 0, none⟩ = some (.slice (some ⟨b, off, none⟩) len cap) ∧ wr.cell? ⟨Bn, 0, none⟩ = some (.int .i64 64))
    (fun i _ => len + 64 - (intOf i).toNat)
  case atStart => exact ⟨0, [], rfl, by omega, Lib.hid rfl, Lib.hid h0, hBs, hBn⟩
  case round =>
    clear hBs hBn h0
    obtain ⟨k, pre, rfl, hk, HP, HJ, hBs, hBn⟩ := hrel
    by_cases hlt : 64 * k < len
    · have hl : pre.length = k := by have := congrArg List.length HP.out; simpa using this
      obtain ⟨x, hx⟩ : ∃ x : Blk len, x.1 = k := ⟨⟨k, hlt⟩, rfl⟩
      have hp2 : (pre ++ [x]).map (·.1) = List.range (k + 1) := by rw [List.map_append, HP.out, List.range_succ, ← hx]; rfl
      have HP2 := Lib.hid hp2
      have hJd : J pre wr.drew := hJ pre wr wr.drew none HJ.out (grownBy_drew (World.grownBy.refl wr _)) (fun r e => by cases e)
      have hy0 := hY pre x wr.drew hJd (by omega)
      rw [hx] at hy0
      have hBs' : wr.drew.cell? ⟨Bs, 0, none⟩ = some (.slice (some ⟨b, off, none⟩) len cap) := hBs
      have hBn' : wr.drew.cell? ⟨Bn, 0, none⟩ = some (.int .i64 64) := hBn
      have HB := Lib.hid (And.intro hBs' hBn')
      clear hl HP hJd HJ hBs' hBn' hp2 hx
      have hcm : ¬ cap = 64 * k := by omega
      have hml : 64 * k ≤ len := by omega
      by_cases h64 : 64 ≤ len - 64 * k
      · have e1 : chunkV b off len k = .slice (some ⟨b, off + 64 * k, none⟩) 64 64 := by
          unfold chunkV
          rw [show min 64 (len - 64 * k) = 64 by omega]
        rw [e1] at hy0
        clear e1
        obtain ⟨fn, tmps, assign, body, hy, hR⟩ := hy0
        have HR := Lib.hid hR
        clear hR
        obtain ⟨m, hm⟩ : ∃ m : Nat, m = 64 * k := ⟨_, rfl⟩
        rw [← hm] at hk hcm hml hy ⊢
        have h64' : (64 : Int) ≤ ((len - m : Nat) : Int) := by omega
        have hmlt : m < len := by omega
        have HM := Lib.hid hm
        clear hm h64 hlt
        gi_wp2
        gi_region
        all_goals
          gi_wp2
          refine HR.out.mono ?_
          rintro e W3 (⟨rfl, hJ3, hk3⟩ | ⟨rfl, hJx3⟩)
          · have hBs3 := (hk3.cell1 0).trans HB.out.1
            have hBn3 := (hk3.cell2 0).trans HB.out.2
            have HJ3 := Lib.hid hJ3
            clear hJ3 hk3
            gi_wp2
            go_roundw
            case rel => exact ⟨k + 1, pre ++ [x], by rw [HM.out]; go_num, by have := HM.out; omega, HP2, HJ3, hBs3, hBn3⟩
            case measure => simp [intOf]; omega
          · gi_wp2
            refine bodyPost_ret (results_none rfl _ _ _) rfl ?_
            exact ⟨⟨_, rfl⟩, .inr ⟨_, hJx3⟩⟩
      · have e1 : chunkV b off len k = .slice (some ⟨b, off + 64 * k, none⟩) (len - 64 * k) (len - 64 * k) := by
          unfold chunkV
          rw [show min 64 (len - 64 * k) = len - 64 * k by omega]
        rw [e1] at hy0
        clear e1
        obtain ⟨fn, tmps, assign, body, hy, hR⟩ := hy0
        have HR := Lib.hid hR
        clear hR
        obtain ⟨m, hm⟩ : ∃ m : Nat, m = 64 * k := ⟨_, rfl⟩
        rw [← hm] at hk hcm hml hy ⊢
        have h64' : ¬ (64 : Int) ≤ ((len - m : Nat) : Int) := by omega
        have hmlt : m < len := by omega
        have HM := Lib.hid hm
        clear hm h64 hlt
        gi_wp2
        gi_region
        all_goals
          gi_wp2
          refine HR.out.mono ?_
          rintro e W3 (⟨rfl, hJ3, hk3⟩ | ⟨rfl, hJx3⟩)
          · have hBs3 := (hk3.cell1 0).trans HB.out.1
            have hBn3 := (hk3.cell2 0).trans HB.out.2
            have HJ3 := Lib.hid hJ3
            clear hJ3 hk3
            gi_wp2
            go_roundw
            case rel => exact ⟨k + 1, pre ++ [x], by rw [HM.out]; go_num, by have := HM.out; omega, HP2, HJ3, hBs3, hBn3⟩
            case measure => simp [intOf]; omega
          · gi_wp2
            refine bodyPost_ret (results_none rfl _ _ _) rfl ?_
            exact ⟨⟨_, rfl⟩, .inr ⟨_, hJx3⟩⟩
    · obtain rfl : k = (len + 63) / 64 := by omega
      have hge : ¬ 64 * ((len + 63) / 64) < len := by omega
      gi_wp2
      go_end0
      exact ⟨⟨_, rfl⟩, .inl ⟨pre, HP.out, HJ.out⟩⟩
end Go.Proofs.YtnoilogepkelaaaDoor
namespace Go.Proofs.YtnoilogepkelaaaDoor
set_option linter.unusedVariables false
set_option linter.unusedSimpArgs false
open Go Go.RowKit Go.Shelf
attribute [local go_sem] Oper.semAt_some

set_option maxRecDepth 100000 in
set_option maxHeartbeats 1000000 in
theorem chunk1_nil (F : Fence) (n : Nat) (hF : F.fn 97) (hro : F.round = none) (l Bs Bn : Nat) (J : List (Blk 0) → World → Prop)
    (W : World) (hBs : W.cell? ⟨Bs, 0, none⟩ = some (.slice none 0 0)) (h0 : J [] W) :
    CallsIn F n Tryd.prog 97 #[.func (.yield l) #[] #[], .pointer (some ⟨Bs, 0, none⟩), .pointer (some ⟨Bn, 0, none⟩)] W fun e W' => (∃ v, e = .returned v) ∧ J [] W' := by
  refine callsIn_of_wp Tryd.func97 rfl hF ?_ hro
  simp only [Tryd.ntmps97, List.size_toArray, List.length_cons, List.length_nil, Nat.reduceAdd, Nat.reduceSub, Array.replicate_succ, Array.replicate_zero, List.push_toArray, List.append_toArray, List.nil_append, List.cons_append]
  gi_wp2
  gi_loopw [4] (fun i wr => i = .int .i64 0 ∧ Hid (J [] wr) ∧ wr.cell? ⟨Bs, 0, none⟩ = some (.slice none 0 0)) (fun _ _ => 0)
  case atStart => exact ⟨rfl, Lib.hid h0, hBs⟩
  case round =>
    clear hBs h0
    obtain ⟨rfl, HJ, hBs⟩ := hrel
    gi_wp2
    go_end0
    exact ⟨⟨_, rfl⟩, HJ.out⟩

/-- slices.Chunk(s, 64): s and 64 are boxed; the function value captures the boxes. -/
theorem chunk_any (a : Option Addr) (len cap : Nat) (w : World) : Calls Tryd.prog 89 #[.slice a len cap, .int .i64 64] w fun e w' =>
    e = .returned (.func (.func 97) #[] #[.pointer (some ⟨w.heap.size, 0, none⟩), .pointer (some ⟨w.heap.size + 1, 0, none⟩)]) ∧
    Below w.heap.size w w' ∧ w'.heap.size = w.heap.size + 2 ∧ w'.cell? ⟨w.heap.size, 0, none⟩ = some (.slice a len cap) ∧ w'.cell? ⟨w.heap.size + 1, 0, none⟩ = some (.int .i64 64) := by
  obtain ⟨W, hW, h1, h2, h3, h4⟩ := alloc2 w (.cells #[.slice a len cap] 22) (.cells #[.int .i64 64] 3)
  have HX := Lib.hid (And.intro hW (And.intro h1 (And.intro h2 (And.intro h3 h4))))
  clear hW h1 h2 h3 h4
  go_enter Tryd.func89, Tryd.ntmps89
  go_wp2
  go_ret
  obtain ⟨hW, h1, h2, h3, h4⟩ := HX.out
  rw [hW]
  exact ⟨rfl, h1, h2, cell_of_row _ _ _ _ _ _ h3, cell_of_row _ _ _ _ _ _ h4⟩

/-- A slice's value: of some block, or nil. -/
def SlForm (sv : Value) (b off len : Nat) : Prop := (sv = .slice none 0 0 ∧ len = 0) ∨ ∃ cap, sv = .slice (some ⟨b, off, none⟩) len cap ∧ len ≤ cap ∧ len ≤ 1000000000

theorem chunk_stops (F : Fence) (n : Nat) (hF : F.fn 97) (hro : F.round = none) (hn : 1 ≤ n) (Bs Bn b off len : Nat) (sv : Value) (hs : SlForm sv b off len) (w : World) (h1 : Bs < w.heap.size) (h2 : Bn < w.heap.size)
    (hBs : w.cell? ⟨Bs, 0, none⟩ = some sv) (hBn : w.cell? ⟨Bn, 0, none⟩ = some (.int .i64 64)) :
    SeqStopsK F n Tryd.prog 97 #[.pointer (some ⟨Bs, 0, none⟩), .pointer (some ⟨Bn, 0, none⟩)] (fun x : Blk len => #[chunkV b off len x.1]) (KeepsTwo Bs Bn)
      (fun ys => ys.map (·.1) = List.range ((len + 63) / 64)) (fun _ => True) len w := fun l J Jx W hW hJ _ hY h0 => by
  have c1 := (hW.cell (p := ⟨Bs, 0, none⟩) h1).trans hBs
  have c2 := (hW.cell (p := ⟨Bn, 0, none⟩) h2).trans hBn
  rcases hs with ⟨rfl, rfl⟩ | ⟨cap, rfl, hlc, hcap⟩
  · exact (chunk1_nil F n hF hro l Bs Bn J W c1 h0).mono fun e W' ⟨he, hj⟩ => ⟨he, .inl ⟨[], rfl, hj⟩⟩
  · exact (chunk1_in F n hF hro hn l Bs Bn b off len cap hlc hcap J Jx W hJ hY c1 c2 h0).mono fun e W' ⟨he, h⟩ => ⟨he, h.imp id fun ⟨pre, hj⟩ => ⟨pre, trivial, hj⟩⟩
end Go.Proofs.YtnoilogepkelaaaDoor
namespace Go.Proofs.YtnoilogepkelaaaDoor
set_option linter.unusedVariables false
set_option linter.unusedSimpArgs false
open Go Go.RowKit
theorem SlL.block {w : World} {b : Nat} {t : TypeId} {fr : Nat × Nat} (vs : List Value) (h : w.heap[b]? = some (.cells vs.toArray t fr)) (n : Nat) (hn : n = vs.length) (hm : vs.length ≤ 1000) : SlL w (.slice (some ⟨b, 0, none⟩) n n) vs := by
  subst hn
  refine .inr ⟨b, 0, vs.length, rfl, Nat.le_refl _, by unfold maxLen; omega, (Array.getElem?_eq_some_iff.1 h).1, fun j hj => ?_⟩
  rw [cell_of_row w b (0 + j) _ _ _ h, Nat.zero_add]
  simp [hj]
theorem info_sl : (Tryd.prog.info? 22).map (fun i => (i.zero, i.size, i.bytes)) = some (some (.slice none 0 0), 1, 24) := by kernel_rfl
def OwnL (E base : Nat) (w : World) (v : Value) (vs : List Value) : Prop := w.ownsRow base E 1 v vs.length vs
theorem OwnL.nil (E base : Nat) (w : World) : OwnL E base w (.slice none 0 0) [] := World.ownsRow_nil _ _ _ _
theorem OwnL.sl {E base : Nat} {w : World} {v : Value} {vs : List Value} (h : OwnL E base w v vs) : SlL w v vs := by
  rcases h with ⟨h1, ⟨rfl, h2⟩ | ⟨g, cap, cur, rfl, hb, hg, hn, hm, hs, ht⟩⟩
  · exact .inl ⟨rfl, List.eq_nil_of_length_eq_zero h2⟩
  · refine .inr ⟨g, 0, cap, rfl, hn, hm, (Array.getElem?_eq_some_iff.1 hg).1, fun j hj => ?_⟩
    rw [cell_of_row w g (0 + j) cur E (0, 0) hg, Nat.zero_add]
    have h3 := congrArg (fun l => l[j]?) ht
    simp only [Nat.mul_one] at h3
    rw [List.getElem?_take_of_lt hj, Array.getElem?_toList] at h3
    rw [h3, List.getD, List.getElem?_eq_getElem hj]
    rfl
theorem OwnL.below {E base B : Nat} {w w' : World} {v : Value} {vs : List Value} (h : OwnL E base w v vs) (hb : Below B w w') (hB : w.heap.size ≤ B) : OwnL E base w' v vs := by
  refine ⟨h.1, ?_⟩
  rcases h.2 with hn | ⟨g, cap, cur, rfl, h1, hg, h2⟩
  · exact .inl hn
  · refine .inr ⟨g, cap, cur, rfl, h1, ?_, h2⟩
    rw [hb.block g (by have := (Array.getElem?_eq_some_iff.1 hg).1; omega)]
    exact hg
theorem OwnL.mono {E base base' : Nat} {w : World} {v : Value} {vs : List Value} (h : OwnL E base w v vs) (hB : base' ≤ base) : OwnL E base' w v vs := by
  refine ⟨h.1, ?_⟩
  rcases h.2 with hn | ⟨g, cap, cur, rfl, h1, hg⟩
  · exact .inl hn
  · exact .inr ⟨g, cap, cur, rfl, by omega, hg⟩
theorem OwnL.alloc {E base : Nat} {w : World} {v : Value} {vs : List Value} (h : OwnL E base w v vs) (o : Obj) : OwnL E base (w.alloc o) v vs := h.below ((Below.refl w.heap.size w).alloc (Nat.le_refl _) o) (Nat.le_refl _)
section
variable {P : Program}
/-- append(s, x...) onto a slice of slices of the call's own. -/
theorem wpList_append_l {ops : Array Oper} {rest : List Oper} {o : Oper} {a : Act} {w : World} {Q : Exit → Act → World → Prop} (hgd : o.guard = none) (s x : Operand) (T E : TypeId)
    (ho : o.op = .call { callee := .builtin .append, args := #[s, x], argTypes := #[T, T] }) (ht : P.underlying T = some (.slice E))
    (hi : (P.info? E).map (fun i => (i.zero, i.size, i.bytes)) = some (some (.slice none 0 0), 1, 24)) (base : Nat)
    (v : Value) (vs : List Value) (hown : OwnL E base w v vs) (hs : a.eval s = v) (u : Value) (ys : List Value) (hsl : SlL w u ys) (hone : ∀ y ∈ ys, y.oneCell' = true) (hx : a.eval x = u)
    (hlen : vs.length + ys.length ≤ 1000000) (hbase : base ≤ w.heap.size)
    (h : ∀ v' w', OwnL E base w' v' (vs ++ ys) → w.grownBy w' v.ownBlock → True → wpList P ops Q rest (a.put o.dst v') w') : wpList P ops Q (o :: rest) a w := by
  obtain ⟨i, hi0, hz, hsz, hby⟩ : ∃ i, P.info? E = some i ∧ i.zero = some (.slice none 0 0) ∧ i.size = 1 ∧ i.bytes = 24 := by
    cases h : P.info? E with
    | none => simp [h] at hi
    | some i => simp [h] at hi; exact ⟨i, rfl, hi⟩
  have hm : vs.length + ys.length ≤ maxLen := by unfold maxLen; omega
  rcases hsl with ⟨rfl, rfl⟩ | ⟨b, off, cap, rfl, h1, h2, h3, h4⟩
  · refine wpList_append_own_none hgd s x T ho base E i 1 ht hi0 v vs.length vs hs hown hx ?_
    exact h v w (by simpa using hown) ⟨rfl, rfl, rfl, Nat.le_refl _, fun _ _ _ => rfl⟩ trivial
  · refine wpList_append_own w hgd s x T ho base E i (.slice none 0 0) 1 24 ht hi0 hz hsz hby rfl (by decide) v vs.length vs hs hown ⟨b, off, none⟩ ys.length cap ys hx (by simp) ?_ hone hm (by omega) hbase ?_
    · intro j y hj
      have hlt : j < ys.length := (List.getElem?_eq_some_iff.1 hj).1
      have hadd : (⟨b, off, none⟩ : Addr).add j = ⟨b, off + j, none⟩ := by unfold Addr.add; split <;> simp_all
      rw [hadd, h4 j hlt, List.getD, hj]
      rfl
    · intro v' w' ho' hg' hn'
      refine h v' w' ?_ hg' trivial
      simpa [OwnL] using ho'
end
end Go.Proofs.YtnoilogepkelaaaDoor
namespace Go.Proofs.YtnoilogepkelaaaDoor
set_option linter.unusedVariables false
set_option linter.unusedSimpArgs false
open Go Go.RowKit Go.WideShapes Go.ChangeShapes

/-- The slice value v reads as a slice of slices of bytes. -/
def SlS (w : World) (v : Value) (xs : List (List (BitVec 8))) : Prop :=
  ∃ a cap, v = .slice a xs.length cap ∧ xs.length ≤ cap ∧ cap ≤ maxLen ∧
    ∀ j, j < xs.length → ∃ b off u, a = some ⟨b, off, none⟩ ∧ b < w.heap.size ∧ w.cell? ⟨b, off + j, none⟩ = some u ∧ SlB w u (xs.getD j [])
theorem SlS.below {B : Nat} {w w' : World} {v : Value} {xs : List (List (BitVec 8))} (h : SlS w v xs) (hb : Below B w w') (hB : w.heap.size ≤ B) : SlS w' v xs := by
  obtain ⟨a, cap, rfl, h1, h2, h3⟩ := h
  refine ⟨a, cap, rfl, h1, h2, fun j hj => ?_⟩
  obtain ⟨b, off, u, rfl, hb', hc, hs⟩ := h3 j hj
  exact ⟨b, off, u, rfl, by have := hb.size; omega, (hb.cell (p := ⟨b, off + j, none⟩) (by show b < B; omega)).trans hc, hs.below hb hB⟩
theorem list_of_ex {α : Type} (d : α) (P : Nat → α → Prop) : ∀ n, (∀ i, i < n → ∃ x, P i x) → ∃ xs : List α, xs.length = n ∧ ∀ i, i < n → P i (xs.getD i d)
  | 0, _ => ⟨[], rfl, fun i hi => absurd hi (by omega)⟩
  | n + 1, h => by
    obtain ⟨xs, hl, hx⟩ := list_of_ex d P n (fun i hi => h i (by omega))
    obtain ⟨x, hp⟩ := h n (by omega)
    refine ⟨xs ++ [x], by simp [hl], fun i hi => ?_⟩
    by_cases e : i = n
    · subst e
      have : (xs ++ [x]).getD i d = x := by simp [List.getD, List.getElem?_append_right (Nat.le_of_eq hl), hl]
      rw [this]; exact hp
    · have : (xs ++ [x]).getD i d = xs.getD i d := by simp only [List.getD]; rw [List.getElem?_append_left (by omega)]
      rw [this]; exact hx i (by omega)
set_option maxRecDepth 100000 in
theorem open_slices {H : Type} {enc : TypeId × Value → H} {W : World} {r : Reach} {base : Nat} {v : Value} {d : DataW H} {ps : List MemPlace} (hv : Value.okWide Tryd.prog W r base 60 v) (h : DataW.Trod enc Tryd.prog W 0 (fun _ => true) true 60 v d ps) : ∃ xs, SlS W v xs := by
  obtain ⟨a, l, c, rfl⟩ := slice_form Tryd.underlying60 hv
  obtain ⟨m, hm⟩ := h
  obtain ⟨a', len, cap, e, h1, h2, h3⟩ := tr_slice (sz := 1) Tryd.underlying60 (by kernel_rfl) (by omega) hm
  have e : Value.slice a l c = .slice a' len cap := by simpa [Value.cells] using e
  simp only [Value.slice.injEq] at e
  obtain ⟨rfl, rfl, rfl⟩ := e
  have hq : ∀ i, i < l → ∃ xs, ∃ b off u, a = some ⟨b, off, none⟩ ∧ b < W.heap.size ∧ W.cell? ⟨b, off + i, none⟩ = some u ∧ SlB W u xs := fun i hi => by
    obtain ⟨b, off, ha, hb, hx⟩ := h3 (by omega)
    obtain ⟨cs, hl, hc, n, y, ht⟩ := hx i hi
    obtain ⟨u, xs, rfl, hs⟩ := tr_sl Tryd.underlying22 Tryd.underlying5 (by kernel_rfl) ht
    exact ⟨xs, b, off, u, ha, hb, by simpa using hc 0 u rfl, hs⟩
  obtain ⟨xs, hl, hx⟩ := list_of_ex ([] : List (BitVec 8)) _ l hq
  subst hl
  exact ⟨xs, a, c, rfl, h1, h2, hx⟩
end Go.Proofs.YtnoilogepkelaaaDoor
namespace Go.Proofs.YtnoilogepkelaaaDoor.Num
set_option linter.unusedVariables false
set_option linter.unusedSimpArgs false

theorem getD_take (b : List (BitVec 8)) (k j : Nat) (h : j < k) : (b.take k).getD j 0 = b.getD j 0 := by simp [List.getD, h]
/-- A number as so many bytes, the greatest first. -/
def num (n : Nat) : Nat → List (BitVec 8)
  | 0 => []
  | k + 1 => BitVec.ofNat 8 (n / 2 ^ (8 * k)) :: num n k
theorem num_length (n k : Nat) : (num n k).length = k := by
  induction k with
  | zero => rfl
  | succ k ih => simp [num, ih]
theorem num_getD (n k i : Nat) (h : i < k) : (num n k).getD i 0 = BitVec.ofNat 8 (n / 2 ^ (8 * (k - 1 - i))) := by
  induction k generalizing i with
  | zero => omega
  | succ k ih =>
    cases i with
    | zero => rfl
    | succ i =>
      have := ih i (by omega)
      rw [num, List.getD_cons_succ, this, show k + 1 - 1 - (i + 1) = k - 1 - i by omega]
theorem num_take (n k i : Nat) (h : i < k) : (num n k).take (i + 1) = (num n k).take i ++ [BitVec.ofNat 8 (n / 2 ^ (8 * (k - 1 - i)))] := by
  rw [← num_getD n k i h, List.take_succ_eq_append_getElem (by rw [num_length]; exact h)]
  simp [List.getD, num_length, h]
theorem num_drop (n k i : Nat) (h : i < k) : (num n k).drop i = BitVec.ofNat 8 (n / 2 ^ (8 * (k - 1 - i))) :: (num n k).drop (i + 1) := by
  rw [← num_getD n k i h, List.drop_eq_getElem_cons (by rw [num_length]; exact h)]
  simp [List.getD, num_length, h]
theorem num4 (n : Nat) : num n 4 = [BitVec.ofNat 8 (n / 16777216), BitVec.ofNat 8 (n / 65536), BitVec.ofNat 8 (n / 256), BitVec.ofNat 8 n] := by
  simp [num]
/-- The number that four bytes are. -/
def val4 (xs : List (BitVec 8)) : Nat := 16777216 * (xs.getD 0 0).toNat + 65536 * (xs.getD 1 0).toNat + 256 * (xs.getD 2 0).toNat + (xs.getD 3 0).toNat
theorem val4_lt (xs : List (BitVec 8)) : val4 xs < 4294967296 := by
  unfold val4
  have := (xs.getD 0 0).isLt
  have := (xs.getD 1 0).isLt
  have := (xs.getD 2 0).isLt
  have := (xs.getD 3 0).isLt
  omega
theorem val4_num (n : Nat) (h : n < 4294967296) (ys : List (BitVec 8)) : val4 (num n 4 ++ ys) = n := by
  rw [num4]
  simp only [val4, List.cons_append, List.nil_append, List.getD_cons_zero, List.getD_cons_succ, BitVec.toNat_ofNat]
  omega
theorem list4 (xs : List (BitVec 8)) (h : 4 ≤ xs.length) : xs.take 4 = [xs.getD 0 0, xs.getD 1 0, xs.getD 2 0, xs.getD 3 0] := by
  match xs, h with
  | a :: b :: c :: d :: l, _ => rfl
theorem num_val4 (xs : List (BitVec 8)) (h : 4 ≤ xs.length) : num (val4 xs) 4 = xs.take 4 := by
  rw [list4 xs h, num4]
  unfold val4
  generalize xs.getD 0 0 = a
  generalize xs.getD 1 0 = b
  generalize xs.getD 2 0 = c
  generalize xs.getD 3 0 = d
  have := a.isLt
  have := b.isLt
  have := c.isLt
  have := d.isLt
  congr 1
  · apply BitVec.eq_of_toNat_eq; rw [BitVec.toNat_ofNat]; omega
  congr 1
  · apply BitVec.eq_of_toNat_eq; rw [BitVec.toNat_ofNat]; omega
  congr 1
  · apply BitVec.eq_of_toNat_eq; rw [BitVec.toNat_ofNat]; omega
  congr 1
  · apply BitVec.eq_of_toNat_eq; rw [BitVec.toNat_ofNat]; omega
theorem val4_take (xs : List (BitVec 8)) (n : Nat) (h : 4 ≤ n) : val4 (xs.take n) = val4 xs := by
  unfold val4
  rw [getD_take _ _ _ (by omega), getD_take _ _ _ (by omega), getD_take _ _ _ (by omega), getD_take _ _ _ (by omega)]

end Go.Proofs.YtnoilogepkelaaaDoor.Num
