/-
  The document's sha: Behind, Sum.
-/
import Derived.Test.YtnoilogepkelaaaDoorBSha
import Derived.Test.YtnoilogepkelaaaDoorBBase
import Derived.Laws.AppendOwnNone
import Derived.Deep.DeepCutAuto
import Derived.Lib.Mul64
import Derived.Laws.Bits64b
import Derived.Deep.QuietTactic
import Derived.BigQuiet
import Derived.StillTailTactics
namespace Go.Proofs.YtnoilogepkelaaaDoor.Rsh
set_option linter.unusedVariables false
set_option linter.unusedSimpArgs false
/-- within, as the text reckons it. -/
def within2 (x p : Nat) : Bool := decide (x * x / 18446744073709551616 < p) || (decide (x * x / 18446744073709551616 = p) && decide (x * x % 18446744073709551616 = 0))
def more3 (x : Nat) : Nat := x * x % 18446744073709551616 * x / 18446744073709551616 + x * x / 18446744073709551616 * x
def within3 (x p : Nat) : Bool := decide (more3 x < 4294967296 * p) || (decide (more3 x = 4294967296 * p) && decide (x * x % 18446744073709551616 * x % 18446744073709551616 = 0))
def withinB (x p many : Nat) : Bool := if many = 2 then within2 x p else within3 x p
def bitN (n : Nat) : Nat := 137438953472 / 2 ^ n
def lim (many : Nat) : Nat := if many = 2 then 137438953472 else 68719476736
def step (p many x bit : Nat) : Nat := if x + bit < lim many ∧ withinB (x + bit) p many = true then x + bit else x
def rootN (p many : Nat) : Nat → Nat
  | 0 => 0
  | n + 1 => step p many (rootN p many n) (bitN n)
def root (p many : Nat) : BitVec 32 := BitVec.ofNat 32 (rootN p many 38)
theorem rootN_lt (p many n : Nat) : rootN p many n < lim many := by
  induction n with
  | zero => unfold rootN lim; split <;> omega
  | succ n ih =>
    unfold rootN step
    split
    · rename_i h; exact h.1
    · exact ih
theorem bitN_succ (n : Nat) : bitN n / 2 = bitN (n + 1) := by
  unfold bitN
  rw [Nat.div_div_eq_div_mul, Nat.pow_succ]
theorem bitN_le (n : Nat) : bitN n ≤ 137438953472 := Nat.div_le_self _ _
theorem bitN_pos (n : Nat) (h : n < 38) : 0 < bitN n := by
  unfold bitN
  refine Nat.div_pos ?_ (Nat.pow_pos (by omega))
  exact Nat.le_trans (Nat.pow_le_pow_right (by omega) (show n ≤ 37 by omega)) (by decide)
theorem bitN_end : bitN 38 = 0 := by decide

/-- Is c prime, if l has the primes below it? As the text tries it: from number i on. -/
def tries (l : List Nat) (c : Nat) : Nat → Nat → Bool
  | _, 0 => true
  | i, f + 1 => if i < l.length ∧ l.getD i 0 * l.getD i 0 ≤ c then (if c % l.getD i 0 = 0 then false else tries l c (i + 1) f) else true
def isP (l : List Nat) (c : Nat) : Bool := tries l c 0 (l.length + 1)
/-- The list behind n numbers tried. -/
def pst : Nat → List Nat
  | 0 => []
  | n + 1 => if isP (pst n) (n + 2) = true then pst n ++ [n + 2] else pst n
def primes : List Nat := [2, 3, 5, 7, 11, 13, 17, 19, 23, 29, 31, 37, 41, 43, 47, 53, 59, 61, 67, 71, 73, 79, 83, 89, 97, 101, 103, 107, 109, 113, 127, 131, 137, 139, 149, 151, 157, 163, 167, 173, 179, 181, 191, 193, 197, 199, 211, 223, 227, 229, 233, 239, 241, 251, 257, 263, 269, 271, 277, 281, 283, 293, 307, 311]
/-- How many primes there are up to n + 1. -/
def cnt (n : Nat) : Nat := (primes.filter fun p => decide (p < n + 2)).length
set_option maxRecDepth 100000 in
theorem pst_eq : ∀ n, n ≤ 310 → pst n = primes.take (cnt n) := by
  have h : (List.range 311).all (fun n => decide ((if isP (primes.take (cnt n)) (n + 2) = true then primes.take (cnt n) ++ [n + 2] else primes.take (cnt n)) = primes.take (cnt (n + 1)))) = true := by decide +kernel
  intro n hn
  induction n with
  | zero => rfl
  | succ n ih =>
    have h1 := of_decide_eq_true (List.all_eq_true.1 h n (List.mem_range.2 (by omega)))
    unfold pst
    rw [ih (by omega)]
    exact h1
theorem cnt_310 : cnt 310 = 64 := by decide +kernel
theorem cnt_18 : cnt 18 = 8 := by decide +kernel
set_option maxRecDepth 100000 in
theorem starts_root : ∀ i, i < 8 → root (primes.getD i 0) 2 = Sha.starts.getD i 0 := by decide +kernel
set_option maxRecDepth 100000 in
theorem adds_root : ∀ i, i < 64 → root (primes.getD i 0) 3 = Sha.adds.getD i 0 := by decide +kernel
theorem primes_le : ∀ i, i < 64 → primes.getD i 0 ≤ 311 := by decide +kernel
end Go.Proofs.YtnoilogepkelaaaDoor.Rsh
namespace Go.Proofs.YtnoilogepkelaaaDoor
set_option linter.unusedVariables false
set_option linter.unusedSimpArgs false
open Go Go.RowKit

def longs (xs : List Nat) : Array Value := (xs.map fun (x : Nat) => Value.int .u64 (x : Int)).toArray
theorem longs_size (xs : List Nat) : (longs xs).size = xs.length := by simp [longs]
def longV (x : Nat) : Value := .int .u64 (x : Int)
def lcells (xs : List (Nat)) : List Value := xs.map longV
theorem lcells_length (xs : List (Nat)) : (lcells xs).length = xs.length := by simp [lcells]
theorem lcells_append (xs ys : List (Nat)) : lcells (xs ++ ys) = lcells xs ++ lcells ys := by simp [lcells]
theorem lcells_get? (xs : List (Nat)) (j : Nat) (h : j < xs.length) : (lcells xs)[j]? = some (longV (xs.getD j 0)) := by simp [lcells, h]
theorem lcells_one (xs : List (Nat)) : ∀ u ∈ lcells xs, u.oneCell' = true := by
  intro u hu
  simp only [lcells, List.mem_map] at hu
  obtain ⟨x, _, rfl⟩ := hu
  rfl

/-- The slice value v reads as the numbers xs. -/
def SlU (w : World) (v : Value) (xs : List (Nat)) : Prop :=
  ((∃ a, v = .slice a 0 0) ∧ xs = []) ∨
  ∃ b off cap, v = .slice (some ⟨b, off, none⟩) xs.length cap ∧ xs.length ≤ cap ∧ cap ≤ maxLen ∧ b < w.heap.size ∧
    ∀ j, j < xs.length → w.cell? ⟨b, off + j, none⟩ = some (longV (xs.getD j 0))

theorem SlU.nil (w : World) : SlU w (.slice none 0 0) [] := .inl ⟨⟨none, rfl⟩, rfl⟩
theorem SlU.below {B : Nat} {w w' : World} {v : Value} {xs : List (Nat)} (h : SlU w v xs) (hb : Below B w w') (hB : w.heap.size ≤ B) : SlU w' v xs := by
  rcases h with h | ⟨b, off, cap, rfl, h1, h2, h3, h4⟩
  · exact .inl h
  · refine .inr ⟨b, off, cap, rfl, h1, h2, by have := hb.size; omega, fun j hj => ?_⟩
    exact (hb.cell (p := ⟨b, off + j, none⟩) (by show b < B; omega)).trans (h4 j hj)
theorem SlU.grown {w w' : World} {v : Value} {xs : List (Nat)} {row : Option Nat} (h : SlU w v xs) (hg : w.grownBy w' row) (hne : v.ownBlock = none ∨ v.ownBlock ≠ row) : SlU w' v xs := by
  rcases h with h | ⟨b, off, cap, rfl, h1, h2, h3, h4⟩
  · exact .inl h
  · refine .inr ⟨b, off, cap, rfl, h1, h2, by have := hg.size; omega, fun j hj => ?_⟩
    have hb := hg.block b h3 (by simpa [Value.ownBlock] using hne)
    exact (World.cell?_of_block (a := ⟨b, off + j, none⟩) hb).trans (h4 j hj)
theorem SlU.alloc {w : World} {v : Value} {xs : List (Nat)} (h : SlU w v xs) (o : Obj) : SlU (w.alloc o) v xs :=
  h.grown (World.grownBy_alloc w o none) (by cases hv : v.ownBlock <;> simp)
theorem SlU.drew {w : World} {v : Value} {xs : List (Nat)} (h : SlU w v xs) : SlU w.drew v xs := h
theorem SlU.drewN {w : World} {v : Value} {xs : List (Nat)} (h : SlU w v xs) (n : Nat) : SlU (w.drewN n) v xs := h
theorem SlU.len {w : World} {v : Value} {xs : List (Nat)} (h : SlU w v xs) : ∃ a cap, v = .slice a xs.length cap := by
  rcases h with ⟨⟨a, rfl⟩, rfl⟩ | ⟨b, off, cap, rfl, _⟩
  · exact ⟨a, 0, rfl⟩
  · exact ⟨_, cap, rfl⟩

theorem SlU.open_ {w : World} {v : Value} {xs : List (Nat)} (h : SlU w v xs) (n : Nat) (hn : xs.length = n) (h0 : 0 < n) : ∃ b off cap, v = .slice (some ⟨b, off, none⟩) n cap ∧ n ≤ cap ∧ b < w.heap.size := by
  subst hn
  rcases h with ⟨_, rfl⟩ | ⟨b, off, cap, rfl, h1, h2, h3, h4⟩
  · simp at h0
  · exact ⟨b, off, cap, rfl, h1, h3⟩

/-- A block whose cells are just these numbers. -/
theorem SlU.block {w : World} {b : Nat} {cs : Array Value} {t : TypeId} {fr : Nat × Nat} (hb : w.heap[b]? = some (.cells cs t fr)) (off cap : Nat) (xs : List (Nat)) (h1 : xs.length ≤ cap) (h2 : cap ≤ maxLen)
    (hx : ∀ j, j < xs.length → cs[off + j]? = some (longV (xs.getD j 0))) : SlU w (.slice (some ⟨b, off, none⟩) xs.length cap) xs :=
  .inr ⟨b, off, cap, rfl, h1, h2, (Array.getElem?_eq_some_iff.1 hb).1, fun j hj => (cell_of_row w b (off + j) cs t fr hb).trans (hx j hj)⟩

/-- A block read cell by cell. -/
theorem SlU.ofRow {w : World} {b n cap : Nat} {C : Array Value} {xs : List (Nat)} (hC : C.toList = lcells xs) (hn : n = xs.length) (hlt : b < w.heap.size) (hcell : ∀ j, w.cell? ⟨b, j, none⟩ = C[j]?) (h1 : xs.length ≤ cap) (h2 : cap ≤ maxLen) :
    SlU w (.slice (some ⟨b, 0, none⟩) n cap) xs := by
  subst hn
  refine .inr ⟨b, 0, cap, rfl, h1, h2, hlt, fun j hj => ?_⟩
  rw [Nat.zero_add, hcell j, ← Array.getElem?_toList, hC]
  exact lcells_get? xs j hj
theorem longs_toList (xs : List (Nat)) : (longs xs).toList = lcells xs := by simp [longs, lcells, longV]

/-- A piece of a slice. -/
theorem SlU.cell {w : World} {b off len cap : Nat} {xs : List (Nat)} (h : SlU w (.slice (some ⟨b, off, none⟩) len cap) xs) (j : Nat) (hj : j < xs.length) : w.cell? ⟨b, off + j, none⟩ = some (longV (xs.getD j 0)) := by
  rcases h with ⟨_, rfl⟩ | ⟨b', off', cap', h, _, _, _, h4⟩
  · simp at hj
  · simp only [Value.slice.injEq, Option.some.injEq, Addr.mk.injEq] at h
    obtain ⟨⟨rfl, rfl, _⟩, _, _⟩ := h
    exact h4 j hj

theorem SlU.drop {w : World} {b off len cap : Nat} {xs : List (Nat)} (h : SlU w (.slice (some ⟨b, off, none⟩) len cap) xs) (k : Nat) (hk : k ≤ len) :
    SlU w (.slice (some ⟨b, off + k, none⟩) (len - k) (cap - k)) (xs.drop k) := by
  rcases h with ⟨⟨a, h⟩, rfl⟩ | ⟨b', off', cap', h, h1, h2, h3, h4⟩
  · simp only [Value.slice.injEq] at h
    obtain ⟨_, rfl, rfl⟩ := h
    obtain rfl : k = 0 := by omega
    exact .inl ⟨⟨_, rfl⟩, by simp⟩
  · simp only [Value.slice.injEq, Option.some.injEq, Addr.mk.injEq] at h
    obtain ⟨⟨rfl, rfl, _⟩, rfl, rfl⟩ := h
    refine .inr ⟨b, off + k, cap - k, by simp, by simp; omega, by omega, h3, fun j hj => ?_⟩
    simp at hj
    rw [Nat.add_assoc, h4 (k + j) (by omega)]
    simp
theorem SlU.take {w : World} {b off len cap : Nat} {xs : List (Nat)} (h : SlU w (.slice (some ⟨b, off, none⟩) len cap) xs) (k : Nat) (hk : k ≤ len) :
    SlU w (.slice (some ⟨b, off, none⟩) k cap) (xs.take k) := by
  rcases h with ⟨⟨a, h⟩, rfl⟩ | ⟨b', off', cap', h, h1, h2, h3, h4⟩
  · simp only [Value.slice.injEq] at h
    obtain ⟨_, rfl, rfl⟩ := h
    obtain rfl : k = 0 := by omega
    exact .inl ⟨⟨_, rfl⟩, by simp⟩
  · simp only [Value.slice.injEq, Option.some.injEq, Addr.mk.injEq] at h
    obtain ⟨⟨rfl, rfl, _⟩, rfl, rfl⟩ := h
    have e : (xs.take k).length = k := by simp; omega
    refine .inr ⟨b, off, cap, by rw [e], by omega, h2, h3, fun j hj => ?_⟩
    rw [e] at hj
    rw [h4 j (by omega)]
    simp [hj]
theorem SlU.setCell {w : World} {g off len cap : Nat} {xs : List (Nat)} (h : SlU w (.slice (some ⟨g, off, none⟩) len cap) xs) {b o : Nat} {sp : Option Nat} (hne : g ≠ b) (v : Value) :
    SlU (w.setCell ⟨b, o, sp⟩ v) (.slice (some ⟨g, off, none⟩) len cap) xs :=
  h.grown (grownBy_setCell (World.grownBy.refl w _) v) (by simp [Value.ownBlock, hne])
theorem SlU.bounds {w : World} {a : Option Addr} {len cap : Nat} {xs : List (Nat)} (h : SlU w (.slice a len cap) xs) : len = xs.length ∧ len ≤ cap ∧ cap ≤ maxLen := by
  rcases h with ⟨⟨a', h⟩, rfl⟩ | ⟨b', off', cap', h, h1, h2, h3, h4⟩
  · simp only [Value.slice.injEq] at h
    obtain ⟨rfl, rfl, rfl⟩ := h
    exact ⟨rfl, Nat.le_refl _, by decide⟩
  · simp only [Value.slice.injEq] at h
    obtain ⟨rfl, rfl, rfl⟩ := h
    exact ⟨rfl, h1, h2⟩

/-- What a call owns. E: the element type's number. -/
def OwnU (E base : Nat) (w : World) (v : Value) (xs : List (Nat)) : Prop := w.ownsRow base E 1 v xs.length (lcells xs)

theorem OwnU.nil (E base : Nat) (w : World) : OwnU E base w (.slice none 0 0) [] := World.ownsRow_nil _ _ _ _
theorem OwnU.sl {E base : Nat} {w : World} {v : Value} {xs : List (Nat)} (h : OwnU E base w v xs) : SlU w v xs := by
  rcases h with ⟨h1, ⟨rfl, h2⟩ | ⟨g, cap, cur, rfl, hb, hg, hn, hm, hs, ht⟩⟩
  · exact .inl ⟨⟨none, rfl⟩, List.eq_nil_of_length_eq_zero h2⟩
  · refine .inr ⟨g, 0, cap, rfl, hn, hm, (Array.getElem?_eq_some_iff.1 hg).1, fun j hj => ?_⟩
    rw [cell_of_row w g (0 + j) cur E (0, 0) hg, Nat.zero_add]
    have := lcells_get? xs j hj
    rw [← ht, List.getElem?_take] at this
    rw [if_pos (by omega)] at this
    simpa using this
theorem OwnU.form {E base : Nat} {w : World} {v : Value} {xs : List (Nat)} (h : OwnU E base w v xs) (n : Nat) (hn : xs.length = n) (h0 : 0 < n) :
    ∃ g cap, v = .slice (some ⟨g, 0, none⟩) n cap ∧ base ≤ g ∧ g < w.heap.size ∧ n ≤ cap ∧ SlU w (.slice (some ⟨g, 0, none⟩) n cap) xs := by
  have hs := h.sl
  subst hn
  rcases h.2 with ⟨rfl, h2⟩ | ⟨g, cap, cur, rfl, hb, hg, hn, hm, _⟩
  · omega
  · exact ⟨g, cap, rfl, hb, (Array.getElem?_eq_some_iff.1 hg).1, hn, hs⟩
theorem OwnU.below {E base B : Nat} {w w' : World} {v : Value} {xs : List (Nat)} (h : OwnU E base w v xs) (hb : Below B w w') (hB : w.heap.size ≤ B) : OwnU E base w' v xs := by
  refine ⟨h.1, ?_⟩
  rcases h.2 with hn | ⟨g, cap, cur, rfl, h1, hg, h2⟩
  · exact .inl hn
  · refine .inr ⟨g, cap, cur, rfl, h1, ?_, h2⟩
    rw [hb.block g (by have := (Array.getElem?_eq_some_iff.1 hg).1; omega)]
    exact hg
theorem OwnU.mono {E base base' : Nat} {w : World} {v : Value} {xs : List (Nat)} (h : OwnU E base w v xs) (hB : base' ≤ base) : OwnU E base' w v xs := by
  refine ⟨h.1, ?_⟩
  rcases h.2 with hn | ⟨g, cap, cur, rfl, h1, hg⟩
  · exact .inl hn
  · exact .inr ⟨g, cap, cur, rfl, by omega, hg⟩

theorem OwnU.grown {E base : Nat} {w w' : World} {v : Value} {xs : List (Nat)} {row : Option Nat} (h : OwnU E base w v xs) (hg : w.grownBy w' row) (hne : v.ownBlock = none ∨ v.ownBlock ≠ row) : OwnU E base w' v xs := by
  refine ⟨h.1, ?_⟩
  rcases h.2 with hn | ⟨g, cap, cur, rfl, h1, hb, h2⟩
  · exact .inl hn
  · refine .inr ⟨g, cap, cur, rfl, h1, ?_, h2⟩
    rw [hg.block g (Array.getElem?_eq_some_iff.1 hb).1 (by simpa [Value.ownBlock] using hne)]
    exact hb
theorem OwnU.alloc {E base : Nat} {w : World} {v : Value} {xs : List (Nat)} (h : OwnU E base w v xs) (o : Obj) : OwnU E base (w.alloc o) v xs :=
  h.below ((Below.refl _ w).alloc (Nat.le_refl _) o) (Nat.le_refl _)
theorem OwnU.get_cell {E base : Nat} {w : World} {g n cap : Nat} {xs : List (Nat)} (h : OwnU E base w (.slice (some ⟨g, 0, none⟩) n cap) xs) (j : Nat) (hj : j < xs.length) : w.cell? ⟨g, j, none⟩ = some (longV (xs.getD j 0)) := by
  simpa using h.sl.cell j hj
theorem OwnU.not_frozen {E base : Nat} {w : World} {g n cap : Nat} {xs : List (Nat)} (h : OwnU E base w (.slice (some ⟨g, 0, none⟩) n cap) xs) (j : Nat) : w.frozen? ⟨g, j, none⟩ = false := by
  rcases h.2 with ⟨e, _⟩ | ⟨g', cap', cur, e, _, hg, _⟩
  · simp at e
  · simp only [Value.slice.injEq, Option.some.injEq, Addr.mk.injEq] at e
    obtain ⟨⟨rfl, -, -⟩, rfl, rfl⟩ := e
    exact frozen_of_row w g j _ _ hg
theorem OwnU.set_cell {E base : Nat} {w : World} {g n cap : Nat} {xs : List (Nat)} (h : OwnU E base w (.slice (some ⟨g, 0, none⟩) n cap) xs) (j : Nat) (hj : j < xs.length) (x : Nat) :
    OwnU E base (w.setCell ⟨g, j, none⟩ (.int .u64 (x : Int))) (.slice (some ⟨g, 0, none⟩) n cap) (xs.set j x) := by
  refine ⟨by simp [lcells], ?_⟩
  rcases h.2 with ⟨e, _⟩ | ⟨g', cap', cur, e, hb, hg, hn, hm, hs, ht⟩
  · simp at e
  · simp only [Value.slice.injEq, Option.some.injEq, Addr.mk.injEq] at e
    obtain ⟨⟨rfl, -, -⟩, rfl, rfl⟩ := e
    refine .inr ⟨g, cap, cur.setIfInBounds j (.int .u64 (x : Int)), by simp, hb, heap_setCell_same w g j _ _ _ hg, by simpa using hn, hm, by simpa using hs, ?_⟩
    simp only [Nat.mul_one] at ht ⊢
    rw [Array.toList_setIfInBounds, List.take_set, List.length_set, ht]
    simp [lcells, longV, List.map_set]
/-- A new block, full. -/
theorem OwnU.made {E base : Nat} (w : World) (xs : List (Nat)) (hb : base ≤ w.heap.size) (hm : xs.length ≤ maxLen) : OwnU E base (w.alloc (.cells (longs xs) E)) (.slice (some ⟨w.heap.size, 0, none⟩) xs.length xs.length) xs :=
  ⟨by simp [lcells], .inr ⟨w.heap.size, xs.length, longs xs, rfl, hb, heap_alloc_new w _, Nat.le_refl _, hm, by simp [longs_size], by rw [longs_toList]; exact List.take_of_length_le (by simp [lcells])⟩⟩

section
variable {P : Program}
/-- append(s, x...) onto a slice of the call's own, whatever the other one (nil, too). -/
theorem wpList_append_u {ops : Array Oper} {rest : List Oper} {o : Oper} {a : Act} {w : World} {Q : Exit → Act → World → Prop} (hgd : o.guard = none) (s x : Operand) (T E : TypeId)
    (ho : o.op = .call { callee := .builtin .append, args := #[s, x], argTypes := #[T, T] }) (ht : P.underlying T = some (.slice E))
    (hi : (P.info? E).map (fun i => (i.zero, i.size, i.bytes)) = some (some (.int .u64 0), 1, 8)) (base : Nat)
    (v : Value) (xs : List (Nat)) (hown : OwnU E base w v xs) (hs : a.eval s = v) (u : Value) (ys : List (Nat)) (hsl : SlU w u ys) (hx : a.eval x = u)
    (hlen : xs.length + ys.length ≤ 100000000) (hbase : base ≤ w.heap.size)
    (h : ∀ v' w', OwnU E base w' v' (xs ++ ys) → w.grownBy w' v.ownBlock → True → wpList P ops Q rest (a.put o.dst v') w') : wpList P ops Q (o :: rest) a w := by
  obtain ⟨i, hi0, hz, hsz, hby⟩ := info_parts hi
  have hm : xs.length + ys.length ≤ maxLen := by unfold maxLen; omega
  rcases hsl with ⟨⟨_ | ad, rfl⟩, rfl⟩ | ⟨b, off, cap, rfl, h1, h2, h3, h4⟩
  · refine wpList_append_own_none hgd s x T ho base E i 1 ht hi0 v xs.length (lcells xs) hs hown hx ?_
    exact h v w (by simpa using hown) ⟨rfl, rfl, rfl, Nat.le_refl _, fun _ _ _ => rfl⟩ trivial
  · refine wpList_append_own w hgd s x T ho base E i (.int .u64 0) 1 8 ht hi0 hz hsz hby rfl (by decide) v xs.length (lcells xs) hs hown ad 0 0 [] hx rfl (by simp) (by simp) (by simpa using hm) (by omega) hbase ?_
    intro v' w' ho' hg' hn'
    exact h v' w' (by simpa [OwnU] using ho') hg' trivial
  · refine wpList_append_own w hgd s x T ho base E i (.int .u64 0) 1 8 ht hi0 hz hsz hby rfl (by decide) v xs.length (lcells xs) hs hown ⟨b, off, none⟩ ys.length cap (lcells ys) hx (by simp [lcells]) ?_ (lcells_one ys) hm (by omega) hbase ?_
    · intro j y hj
      have hlt : j < ys.length := by
        rw [← lcells_length]
        exact (List.getElem?_eq_some_iff.1 hj).1
      rw [lcells_get? ys j hlt] at hj
      obtain rfl : longV (ys.getD j 0) = y := by simpa using hj
      have hadd : (⟨b, off, none⟩ : Addr).add j = ⟨b, off + j, none⟩ := by unfold Addr.add; split <;> simp_all
      rw [hadd]
      exact h4 j hlt
    · intro v' w' ho' hg' hn'
      refine h v' w' ?_ hg' trivial
      simpa [OwnU, lcells_append] using ho'
end
end Go.Proofs.YtnoilogepkelaaaDoor
namespace Go.Proofs.YtnoilogepkelaaaDoor
set_option linter.unusedVariables false
set_option linter.unusedSimpArgs false
open Go Go.RowKit
namespace M64
theorem maskN (a : Nat) (ha : a < 18446744073709551616) : bits .and .u64 (a : Int) 4294967295 = ((a % 4294967296 : Nat) : Int) := by
  have h := bits_and_u64_nat a 4294967295 ha (by omega)
  have e : a &&& 4294967295 = a % 4294967296 := Nat.and_two_pow_sub_one_eq_mod a 32
  rw [e] at h
  exact h
theorem divN (a : Nat) : (a : Int) / 4294967296 = ((a / 4294967296 : Nat) : Int) := by omega
theorem mulN (a b : Nat) : (a : Int) * (b : Int) = ((a * b : Nat) : Int) := (Int.natCast_mul a b).symm
theorem addN (a b : Nat) : (a : Int) + (b : Int) = ((a + b : Nat) : Int) := (Int.natCast_add a b).symm
theorem wrapN (a : Nat) (ha : a < 18446744073709551616) : IntKind.u64.wrap (a : Int) = (a : Int) := by rw [IntKind.wrap_u64]; omega
theorem wrapM (a : Nat) : IntKind.u64.wrap (a : Int) = ((a % 18446744073709551616 : Nat) : Int) := by rw [IntKind.wrap_u64]; omega
end M64
set_option maxHeartbeats 1000000 in
theorem mul64_any (x y : Nat) (hx : x < 18446744073709551616) (hy : y < 18446744073709551616) (w : World) :
    Calls Tryd.prog 98 #[.int .u64 x, .int .u64 y] w fun e w' => e = .returned (.tuple #[.int .u64 ((x * y / 18446744073709551616 : Nat) : Int), .int .u64 ((x * y % 18446744073709551616 : Nat) : Int)]) ∧ w' = w := by
  obtain ⟨bd, bt, bw, hhi⟩ := Lib.mul64_hi x y hx hy
  have ba := Lib.half_mul_le (a := x / 4294967296) (b := y / 4294967296) (by omega) (by omega)
  have bb := Lib.half_mul_le (a := x / 4294967296) (b := y % 4294967296) (by omega) (by omega)
  have bc := Lib.half_mul_le (a := x % 4294967296) (b := y / 4294967296) (by omega) (by omega)
  have ba' : x / 4294967296 * (y / 4294967296) < 18446744073709551616 := by omega
  have bb' : x / 4294967296 * (y % 4294967296) < 18446744073709551616 := by omega
  have bc' : x % 4294967296 * (y / 4294967296) < 18446744073709551616 := by omega
  have bh1 : x / 4294967296 * (y / 4294967296) + (x / 4294967296 * (y % 4294967296) + x % 4294967296 * (y % 4294967296) / 4294967296) / 4294967296 < 18446744073709551616 := by omega
  have bh : x / 4294967296 * (y / 4294967296) + (x / 4294967296 * (y % 4294967296) + x % 4294967296 * (y % 4294967296) / 4294967296) / 4294967296 + ((x / 4294967296 * (y % 4294967296) + x % 4294967296 * (y % 4294967296) / 4294967296) % 4294967296 + x % 4294967296 * (y / 4294967296)) / 4294967296 < 18446744073709551616 := by omega
  go_enter Tryd.func98, Tryd.ntmps98
  go_wp2
  simp only [M64.maskN x hx, M64.maskN y hy, M64.divN, M64.mulN, M64.addN, M64.wrapN _ bd, M64.wrapN _ bb', M64.wrapN _ bt, M64.maskN _ bt, M64.wrapN _ bc', M64.wrapN _ bw, M64.wrapN _ ba', M64.wrapN _ bh1, M64.wrapN _ bh, M64.wrapM (x * y)]
  rw [hhi]
  go_ret2
  exact ⟨rfl, rfl⟩

set_option maxHeartbeats 1000000 in
theorem within2_any (x p : Nat) (hx : x < 2199023255552) (hp : p ≤ 400) (w : World) :
    Calls Tryd.prog 91 #[.int .u64 x, .int .u64 p, .int .i64 2] w fun e w' => e = .returned (.bool (Rsh.within2 x p)) ∧ w' = w := by
  have HM := Lib.hid (mul64_any x x (by omega) (by omega) w)
  have HW := Lib.hid (show Rsh.within2 x p = (decide (x * x / 18446744073709551616 < p) || (decide (x * x / 18446744073709551616 = p) && decide (x * x % 18446744073709551616 = 0))) from rfl)
  obtain ⟨hi, hhi⟩ : ∃ h, x * x / 18446744073709551616 = h := ⟨_, rfl⟩
  obtain ⟨lo, hlo⟩ : ∃ h, x * x % 18446744073709551616 = h := ⟨_, rfl⟩
  rw [hhi, hlo] at HM HW
  clear hhi hlo hx
  generalize Rsh.within2 x p = r at *
  by_cases h1 : hi < p
  · obtain rfl : r = true := by rw [HW.out]; simp [h1]
    have h1' : (hi : Int) < (p : Int) := by omega
    go_enter Tryd.func91, Tryd.ntmps91
    go_wp2_with (go_at_call 98; refine HM.out.mono ?_; rintro e w' ⟨rfl, rfl⟩)
    all_goals
      go_ret
      exact ⟨rfl, rfl⟩
  · by_cases h2 : hi = p
    · by_cases h3 : lo = 0
      · obtain rfl : r = true := by rw [HW.out]; simp [h2, h3]
        subst h2 h3
        go_enter Tryd.func91, Tryd.ntmps91
        go_wp2_with (go_at_call 98; refine HM.out.mono ?_; rintro e w' ⟨rfl, rfl⟩)
        all_goals
          go_ret
          exact ⟨rfl, rfl⟩
      · obtain rfl : r = false := by rw [HW.out]; simp [h1, h3]
        subst h2
        have h3' : ((lo : Int) == 0) = false := by simp; omega
        have h3'' : ¬ (lo : Int) = 0 := by omega
        go_enter Tryd.func91, Tryd.ntmps91
        go_wp2_with (go_at_call 98; refine HM.out.mono ?_; rintro e w' ⟨rfl, rfl⟩)
        all_goals
          go_ret
          exact ⟨rfl, rfl⟩
    · obtain rfl : r = false := by rw [HW.out]; simp [h1, h2]
      have h1' : decide ((hi : Int) < (p : Int)) = false := by simp; omega
      have h2' : ((hi : Int) == (p : Int)) = false := by simp; omega
      have h2'' : ¬ (hi : Int) = (p : Int) := by omega
      go_enter Tryd.func91, Tryd.ntmps91
      go_wp2_with (go_at_call 98; refine HM.out.mono ?_; rintro e w' ⟨rfl, rfl⟩)
      all_goals
        go_ret
        exact ⟨rfl, rfl⟩
end Go.Proofs.YtnoilogepkelaaaDoor
namespace Go.Proofs.YtnoilogepkelaaaDoor
set_option linter.unusedVariables false
set_option linter.unusedSimpArgs false
open Go Go.RowKit

set_option maxHeartbeats 1000000 in
theorem within3_any (x p : Nat) (hx : x < 137438953472) (hp : p ≤ 400) (w : World) :
    Calls Tryd.prog 91 #[.int .u64 x, .int .u64 p, .int .i64 3] w fun e w' => e = .returned (.bool (Rsh.within3 x p)) ∧ w' = w := by
  have HM := Lib.hid (mul64_any x x (by omega) (by omega) w)
  have HN := Lib.hid (mul64_any (x * x % 18446744073709551616) x (by omega) (by omega) w)
  have HW := Lib.hid (show Rsh.within3 x p = (decide (Rsh.more3 x < 4294967296 * p) || (decide (Rsh.more3 x = 4294967296 * p) && decide (x * x % 18446744073709551616 * x % 18446744073709551616 = 0))) from rfl)
  have hmo : Rsh.more3 x = x * x % 18446744073709551616 * x / 18446744073709551616 + x * x / 18446744073709551616 * x := rfl
  have hxx : x * x ≤ 137438953472 * 137438953472 := Nat.mul_le_mul (by omega) (by omega)
  have hhib : x * x / 18446744073709551616 ≤ 1024 := by omega
  have hqb : x * x / 18446744073709551616 * x ≤ 1024 * 137438953472 := Nat.mul_le_mul hhib (by omega)
  have hlx : x * x % 18446744073709551616 * x ≤ 18446744073709551616 * 137438953472 := Nat.mul_le_mul (by omega) (by omega)
  have hmb : x * x % 18446744073709551616 * x / 18446744073709551616 ≤ 137438953472 := by omega
  clear hxx hhib hlx
  obtain ⟨hi, hhi⟩ : ∃ h, x * x / 18446744073709551616 = h := ⟨_, rfl⟩
  obtain ⟨lo, hlo⟩ : ∃ h, x * x % 18446744073709551616 = h := ⟨_, rfl⟩
  rw [hhi, hlo] at HM
  rw [hlo] at HN HW hmo hmb
  rw [hhi] at hmo hqb
  obtain ⟨m, hm⟩ : ∃ h, lo * x / 18446744073709551616 = h := ⟨_, rfl⟩
  obtain ⟨ls, hls⟩ : ∃ h, lo * x % 18446744073709551616 = h := ⟨_, rfl⟩
  obtain ⟨q, hq⟩ : ∃ h, hi * x = h := ⟨_, rfl⟩
  obtain ⟨R, hR⟩ : ∃ h, 4294967296 * p = h := ⟨_, rfl⟩
  obtain ⟨M, hM⟩ : ∃ h, m + q = h := ⟨_, rfl⟩
  rw [hm, hls] at HN
  rw [hls, hR] at HW
  rw [hm] at hmb
  rw [hm, hq, hM] at hmo
  rw [hq] at hqb
  rw [hmo] at HW
  have e1 : (hi : Int) * (x : Int) = (q : Int) := by rw [← hq]; simp
  have w1 : IntKind.u64.wrap ((hi : Int) * (x : Int)) = (q : Int) := by rw [e1, wrap_u64_mod]; omega
  have v1 : (hi : Int) * (x : Int) % 18446744073709551616 = (q : Int) := by rw [e1]; omega
  have e2 : (m : Int) + (q : Int) = (M : Int) := by omega
  have w2 : IntKind.u64.wrap ((m : Int) + (q : Int)) = (M : Int) := by rw [e2, wrap_u64_mod]; omega
  have v2 : ((m : Int) + (q : Int)) % 18446744073709551616 = (M : Int) := by rw [e2]; omega
  have e3 : 4294967296 * (p : Int) = (R : Int) := by omega
  have w3 : IntKind.u64.wrap (4294967296 * (p : Int)) = (R : Int) := by rw [e3, wrap_u64_mod]; omega
  have v3 : 4294967296 * (p : Int) % 18446744073709551616 = (R : Int) := by rw [e3]; omega
  clear hhi hlo hm hls hq hR hM hmo hmb hqb hx hp e1 e2 e3
  generalize Rsh.within3 x p = r at *
  have c0 : M < R ∨ (M = R ∧ ls = 0) ∨ (M = R ∧ ls ≠ 0) ∨ R < M := by omega
  rcases c0 with h1 | ⟨h1, h2⟩ | ⟨h1, h2⟩ | h1
  · obtain rfl : r = true := by rw [HW.out]; simp [h1]
    have h1' : (M : Int) < (R : Int) := by omega
    clear h1
    go_enter Tryd.func91, Tryd.ntmps91
    go_wp2_with (first
      | (go_at_call 98; (with_reducible refine Calls.mono HM.out ?_); rintro e w' ⟨rfl, rfl⟩)
      | (go_at_call 98; (with_reducible refine Calls.mono HN.out ?_); rintro e w' ⟨rfl, rfl⟩))
    all_goals
      go_ret
      exact ⟨rfl, rfl⟩
  · obtain rfl : r = true := by rw [HW.out]; simp [h1, h2]
    subst h1 h2
    go_enter Tryd.func91, Tryd.ntmps91
    go_wp2_with (first
      | (go_at_call 98; (with_reducible refine Calls.mono HM.out ?_); rintro e w' ⟨rfl, rfl⟩)
      | (go_at_call 98; (with_reducible refine Calls.mono HN.out ?_); rintro e w' ⟨rfl, rfl⟩))
    all_goals
      go_ret
      exact ⟨rfl, rfl⟩
  · obtain rfl : r = false := by rw [HW.out]; simp [h1, h2]
    subst h1
    have h3n : decide (ls = 0) = false := by simp; exact h2
    have h3' : ((ls : Int) == 0) = false := by simp; omega
    have h3'' : ¬ (ls : Int) = 0 := by omega
    go_enter Tryd.func91, Tryd.ntmps91
    go_wp2_with (first
      | (go_at_call 98; (with_reducible refine Calls.mono HM.out ?_); rintro e w' ⟨rfl, rfl⟩)
      | (go_at_call 98; (with_reducible refine Calls.mono HN.out ?_); rintro e w' ⟨rfl, rfl⟩))
    all_goals
      go_ret
      exact ⟨rfl, rfl⟩
  · obtain rfl : r = false := by rw [HW.out]; simp; omega
    have h1' : decide ((M : Int) < (R : Int)) = false := by simp; omega
    have h1n : decide (M < R) = false := by simp; omega
    have h2' : ((M : Int) == (R : Int)) = false := by simp; omega
    have h2'' : ¬ (M : Int) = (R : Int) := by omega
    go_enter Tryd.func91, Tryd.ntmps91
    go_wp2_with (first
      | (go_at_call 98; (with_reducible refine Calls.mono HM.out ?_); rintro e w' ⟨rfl, rfl⟩)
      | (go_at_call 98; (with_reducible refine Calls.mono HN.out ?_); rintro e w' ⟨rfl, rfl⟩))
    all_goals
      go_ret
      exact ⟨rfl, rfl⟩

/-- within, of roots of two or three. -/
theorem within_any (x p many : Nat) (mI : Int) (hmany : many = 2 ∧ mI = 2 ∨ many = 3 ∧ mI = 3) (hx : x < 137438953472) (hp : p ≤ 400) (w : World) :
    Calls Tryd.prog 91 #[.int .u64 x, .int .u64 p, .int .i64 mI] w fun e w' => e = .returned (.bool (Rsh.withinB x p many)) ∧ w' = w := by
  rcases hmany with ⟨rfl, rfl⟩ | ⟨rfl, rfl⟩
  · exact within2_any x p (by omega) hp w
  · exact within3_any x p hx hp w

set_option maxRecDepth 100000 in
set_option maxHeartbeats 1000000 in
theorem root_any (p many : Nat) (mI : Int) (hmany : many = 2 ∧ mI = 2 ∨ many = 3 ∧ mI = 3) (hp : p ≤ 400) (w : World) :
    Calls Tryd.prog 66 #[.int .u64 p, .int .i64 mI] w fun e w' => e = .returned (.int .u32 (wv (Rsh.root p many))) ∧ w' = w := by
  have HWI := Lib.hid (fun x (hx : x < 137438953472) W => within_any x p many mI hmany hx hp W)
  have HR := Lib.hid (show Rsh.root p many = BitVec.ofNat 32 (Rsh.rootN p many 38) from rfl)
  have HS := Lib.hid (fun n => (show Rsh.rootN p many (n + 1) = Rsh.step p many (Rsh.rootN p many n) (Rsh.bitN n) from rfl))
  have HBS := Lib.hid Rsh.bitN_succ
  have HLT := Lib.hid (fun n => Rsh.rootN_lt p many n)
  have HST := Lib.hid (fun x bit => (show Rsh.step p many x bit = if x + bit < Rsh.lim many ∧ Rsh.withinB (x + bit) p many = true then x + bit else x from rfl))
  have HLM := Lib.hid (show (many = 2 ∧ mI = 2 ∧ Rsh.lim many = 137438953472) ∨ (many = 3 ∧ mI = 3 ∧ Rsh.lim many = 68719476736) by
    rcases hmany with ⟨rfl, rfl⟩ | ⟨rfl, rfl⟩
    · exact .inl ⟨rfl, rfl, rfl⟩
    · exact .inr ⟨rfl, rfl, rfl⟩)
  have H0 := Lib.hid (show Rsh.rootN p many 0 = 0 ∧ Rsh.bitN 0 = 137438953472 from ⟨rfl, by decide⟩)
  clear hmany
  generalize Rsh.root p many = res at *
  go_enter Tryd.func66, Tryd.ntmps66
  go_wp2
  go_loopw [5, 6] (fun s5 s6 wr => ∃ n x bit : Nat, n ≤ 38 ∧ s5 = .int .u64 x ∧ s6 = .int .u64 bit ∧ Hid (Rsh.rootN p many n = x ∧ Rsh.bitN n = bit) ∧ wr = w) (fun _ s6 _ => (intOf s6).toNat)
  case atStart => exact ⟨0, 0, 137438953472, by omega, rfl, rfl, H0, rfl⟩
  case round =>
    obtain ⟨n, x, bit, hn, rfl, rfl, HX, rfl⟩ := hrel
    have hxl := HLT.out n
    rw [HX.out.1] at hxl
    by_cases hn38 : n = 38
    · subst hn38
      have hb0 : bit = 0 := by rw [← HX.out.2]; exact Rsh.bitN_end
      have hres : wv res = (x : Int) % 4294967296 := by
        rw [HR.out, HX.out.1]
        unfold wv
        rw [BitVec.toNat_ofNat]
        omega
      have HRES := Lib.hid hres
      have hb0i : (bit : Int) = 0 := by omega
      clear hres hxl hb0
      go_wp2
      go_ret
      exact ⟨by rw [HRES.out]; rfl, rfl⟩
    · have hbp : 0 < bit := by rw [← HX.out.2]; exact Rsh.bitN_pos n (by omega)
      have hbl : bit ≤ 137438953472 := by rw [← HX.out.2]; exact Rsh.bitN_le n
      have hbn := HBS.out n
      have hsn := HS.out n
      rw [HX.out.1, HX.out.2, HST.out] at hsn
      rw [HX.out.2] at hbn
      obtain ⟨y, hy⟩ : ∃ y, x + bit = y := ⟨_, rfl⟩
      rw [hy] at hsn
      obtain ⟨b2, hb2⟩ : ∃ b, bit / 2 = b := ⟨_, rfl⟩
      have hb2' : (bit : Int) / 2 = (b2 : Int) := by omega
      have hb2l : b2 < bit := by omega
      have e1 : (x : Int) + (bit : Int) = (y : Int) := by omega
      have w1 : IntKind.u64.wrap ((x : Int) + (bit : Int)) = (y : Int) := by
        rw [e1, wrap_u64_mod]
        rcases HLM.out with ⟨_, _, h⟩ | ⟨_, _, h⟩ <;> rw [h] at hxl <;> omega
      have v1 : ((x : Int) + (bit : Int)) % 18446744073709551616 = (y : Int) := by rw [← wrap_u64_mod]; exact w1
      have hbpi : (0 : Int) < (bit : Int) := by omega
      have HB2 := Lib.hid (show Rsh.bitN (n + 1) = b2 from hbn ▸ hb2)
      have hlm := HLM.out
      have HWY := Lib.hid (fun (h : y < 137438953472) W => HWI.out y h W)
      have HSN := Lib.hid hsn
      clear hbn hsn hy hb2 hbl hxl HBS HS HST HWI HR HLT H0
      rcases hlm with ⟨rfl, rfl, hL⟩ | ⟨rfl, rfl, hL⟩
      all_goals
        rw [hL] at HSN
        clear hL HLM
        generalize Rsh.withinB y p _ = r at HWY HSN
      · by_cases h1 : y < 137438953472
        · have hd : (y : Int) < 137438953472 := by omega
          have HWZ := Lib.hid (HWY.out h1)
          cases r with
          | true =>
            rw [if_pos ⟨h1, rfl⟩] at HSN
            clear h1 HWY
            go_wp2_with (go_at_call 91; refine (HWZ.out _).mono ?_; rintro e w' ⟨rfl, rfl⟩)
            exact ⟨⟨n + 1, y, b2, by omega, rfl, rfl, ⟨HSN.out, HB2.out⟩, trivial⟩, by simp [intOf]; omega⟩
          | false =>
            rw [if_neg (by simp)] at HSN
            clear h1 HWY
            go_wp2_with (go_at_call 91; refine (HWZ.out _).mono ?_; rintro e w' ⟨rfl, rfl⟩)
            exact ⟨⟨n + 1, x, b2, by omega, rfl, rfl, ⟨HSN.out, HB2.out⟩, trivial⟩, by simp [intOf]; omega⟩
        · have hd : ¬ (y : Int) < 137438953472 := by omega
          have hd' : decide ((y : Int) < 137438953472) = false := by simp; omega
          rw [if_neg (fun h => h1 h.1)] at HSN
          clear h1 HWY
          go_wp2
          exact ⟨⟨n + 1, x, b2, by omega, rfl, rfl, ⟨HSN.out, HB2.out⟩, trivial⟩, by simp [intOf]; omega⟩
      · by_cases h1 : y < 68719476736
        · have hd : (y : Int) < 68719476736 := by omega
          have HWZ := Lib.hid (HWY.out (by omega))
          cases r with
          | true =>
            rw [if_pos ⟨h1, rfl⟩] at HSN
            clear h1 HWY
            go_wp2_with (go_at_call 91; refine (HWZ.out _).mono ?_; rintro e w' ⟨rfl, rfl⟩)
            exact ⟨⟨n + 1, y, b2, by omega, rfl, rfl, ⟨HSN.out, HB2.out⟩, trivial⟩, by simp [intOf]; omega⟩
          | false =>
            rw [if_neg (by simp)] at HSN
            clear h1 HWY
            go_wp2_with (go_at_call 91; refine (HWZ.out _).mono ?_; rintro e w' ⟨rfl, rfl⟩)
            exact ⟨⟨n + 1, x, b2, by omega, rfl, rfl, ⟨HSN.out, HB2.out⟩, trivial⟩, by simp [intOf]; omega⟩
        · have hd : ¬ (y : Int) < 68719476736 := by omega
          have hd' : decide ((y : Int) < 68719476736) = false := by simp; omega
          rw [if_neg (fun h => h1 h.1)] at HSN
          clear h1 HWY
          go_wp2
          exact ⟨⟨n + 1, x, b2, by omega, rfl, rfl, ⟨HSN.out, HB2.out⟩, trivial⟩, by simp [intOf]; omega⟩
end Go.Proofs.YtnoilogepkelaaaDoor
namespace Go.Proofs.YtnoilogepkelaaaDoor
set_option linter.unusedVariables false
set_option linter.unusedSimpArgs false
open Go Go.RowKit

theorem info_u64 : (Tryd.prog.info? 68).map (fun i => (i.zero, i.size, i.bytes)) = some (some (.int .u64 0), 1, 8) := by kernel_rfl
theorem info_u32 : (Tryd.prog.info? 25).map (fun i => (i.zero, i.size, i.bytes)) = some (some (.int .u32 0), 1, 4) := by kernel_rfl
theorem one_long {E : TypeId} (w : World) (n : Int) (x : Nat) (h : n = (x : Int)) : SlU (w.alloc (.cells #[.int .u64 n] E)) (.slice (some ⟨w.heap.size, 0, none⟩) 1 1) [x] := by
  subst h
  exact SlU.block (heapA_new w _ _ rfl) 0 1 [x] (by simp) (by decide) (fun j hj => by
    have : j = 0 := by simp at hj; omega
    subst this
    rfl)
theorem one_word {E : TypeId} (w : World) (n : Int) (x : BitVec 32) (h : n = wv x) : SlW (w.alloc (.cells #[.int .u32 n] E)) (.slice (some ⟨w.heap.size, 0, none⟩) 1 1) [x] := by
  subst h
  exact SlW.block (heapA_new w _ _ rfl) 0 1 [x] (by simp) (by decide) (fun j hj => by
    have : j = 0 := by simp at hj; omega
    subst this
    rfl)
/-- What a call returns that makes numbers. -/
def RetU (w : World) (xs : List Nat) (e : Ending) (w' : World) : Prop := ∃ v, e = .returned v ∧ OwnU 68 w.heap.size w' v xs ∧ Below w.heap.size w w'
def RetW (w : World) (xs : List (BitVec 32)) (e : Ending) (w' : World) : Prop := ∃ v, e = .returned v ∧ OwnW 25 w.heap.size w' v xs ∧ Below w.heap.size w w'

theorem Rsh.tries_stop (l : List Nat) (c i f : Nat) (h : ¬ (i < l.length ∧ l.getD i 0 * l.getD i 0 ≤ c)) : Rsh.tries l c i (f + 1) = true := by
  unfold Rsh.tries
  rw [if_neg h]
theorem Rsh.tries_no (l : List Nat) (c i f : Nat) (h : i < l.length ∧ l.getD i 0 * l.getD i 0 ≤ c) (h0 : c % l.getD i 0 = 0) : Rsh.tries l c i (f + 1) = false := by
  unfold Rsh.tries
  rw [if_pos h, if_pos h0]
theorem Rsh.tries_on (l : List Nat) (c i f : Nat) (h : i < l.length ∧ l.getD i 0 * l.getD i 0 ≤ c) (h0 : ¬ c % l.getD i 0 = 0) : Rsh.tries l c i (f + 1) = Rsh.tries l c (i + 1) f := by
  conv => lhs; unfold Rsh.tries
  rw [if_pos h, if_neg h0]
theorem Rsh.cnt_le : ∀ n, n ≤ 310 → Rsh.cnt n ≤ 64 := by decide +kernel
theorem Rsh.primes_pos : ∀ i, i < 64 → 2 ≤ Rsh.primes.getD i 0 := by decide +kernel
theorem Rsh.pst_getD (n i : Nat) (hn : n ≤ 310) (h : i < (Rsh.pst n).length) : 2 ≤ (Rsh.pst n).getD i 0 ∧ (Rsh.pst n).getD i 0 ≤ 311 := by
  rw [Rsh.pst_eq n hn] at h ⊢
  rw [List.length_take] at h
  have hl : Rsh.primes.length = 64 := rfl
  have e : (Rsh.primes.take (Rsh.cnt n)).getD i 0 = Rsh.primes.getD i 0 := by
    simp only [List.getD]
    rw [List.getElem?_take_of_lt (by omega)]
  rw [e]
  exact ⟨Rsh.primes_pos i (by omega), Rsh.primes_le i (by omega)⟩
theorem Rsh.pst_length (n : Nat) (hn : n ≤ 310) : (Rsh.pst n).length = Rsh.cnt n := by
  rw [Rsh.pst_eq n hn, List.length_take]
  have := Rsh.cnt_le n hn
  have hl : Rsh.primes.length = 64 := rfl
  omega
/-- Behind how many tries there are so many primes. -/
theorem Rsh.cnt_many : ∀ n, n ≤ 310 → (Rsh.cnt n < 64 → n < 310) ∧ (Rsh.cnt n < 8 → n < 18) := by decide +kernel

set_option maxRecDepth 100000 in
set_option maxHeartbeats 4000000 in
theorem primes_any (many : Nat) (mI : Int) (hm : many = 8 ∧ mI = 8 ∨ many = 64 ∧ mI = 64) (w : World) : Calls Tryd.prog 65 #[.int .i64 mI] w (RetU w (Rsh.primes.take many)) := by
  have HC := Lib.hid (fun n (hn : n ≤ 310) => Rsh.cnt_many n hn)
  have HPL := Lib.hid (fun n (hn : n ≤ 310) => Rsh.pst_length n hn)
  have HPG := Lib.hid (fun n i (hn : n ≤ 310) (h : i < (Rsh.pst n).length) => Rsh.pst_getD n i hn h)
  have HPE := Lib.hid (fun n (hn : n ≤ 310) => Rsh.pst_eq n hn)
  have HPS := Lib.hid (fun n => (show Rsh.pst (n + 1) = if Rsh.isP (Rsh.pst n) (n + 2) = true then Rsh.pst n ++ [n + 2] else Rsh.pst n from rfl))
  have HM := Lib.hid hm
  have hmI : 8 ≤ mI ∧ mI ≤ 64 ∧ mI = (many : Int) := by omega
  have hm8 := hmI.1
  have hm64 := hmI.2.1
  have HMI := Lib.hid hmI.2.2
  clear hm hmI
  go_enter Tryd.func65, Tryd.ntmps65
  go_wp2
  go_loopw [3, 4] (fun s3 s4 wr => ∃ n c : Nat, n ≤ 310 ∧ s4 = .int .u64 c ∧ Hid (c = n + 2 ∧ Rsh.cnt n ≤ many) ∧ Hid (OwnU 68 w.heap.size wr s3 (Rsh.pst n)) ∧ Hid (Below w.heap.size w wr)) (fun _ s4 _ => 400 - (intOf s4).toNat)
  case atStart => exact ⟨0, 2, by omega, rfl, ⟨rfl, by rw [show Rsh.cnt 0 = 0 by decide]; omega⟩, OwnU.nil _ _ _, Below.refl _ _⟩
  case round =>
    obtain ⟨n, c, hn, rfl, HN, HO, HB⟩ := hrel
    have hsz := HB.out.size
    have hlen := HPL.out n hn
    obtain ⟨L, hL⟩ : ∃ L, Rsh.cnt n = L := ⟨_, rfl⟩
    rw [hL] at hlen
    have HLL := Lib.hid (And.intro hlen hL)
    have hsl := HO.out.sl
    obtain ⟨a3, cap3, rfl⟩ := hsl.len
    rw [hlen] at HO hsl ⊢
    have HSL := Lib.hid hsl
    have hLm : L ≤ 64 := by have h1 := HN.out.2; have h2 := HMI.out; rw [hL] at h1; omega
    clear hsl hlen hL
    by_cases hlt : (L : Int) < mI
    · have hn2 : n < 310 := by
        have h1 := HC.out n hn
        have h2 := HLL.out.2
        have h3 := HM.out
        rw [h2] at h1
        rcases h3 with ⟨_, h⟩ | ⟨_, h⟩
        · have := h1.2 (by omega); omega
        · exact h1.1 (by omega)
      have hcb : c ≤ 312 := by have := HN.out.1; omega
      have hc2 : 2 ≤ c := by have := HN.out.1; omega
      have HPI := Lib.hid (show Rsh.isP (Rsh.pst n) c = Rsh.tries (Rsh.pst n) c 0 (L + 1) by rw [Rsh.isP, HLL.out.1])
      have HTS := Lib.hid (fun i f => And.intro (Rsh.tries_stop (Rsh.pst n) c i f) (And.intro (Rsh.tries_no (Rsh.pst n) c i f) (Rsh.tries_on (Rsh.pst n) c i f)))
      have HGI := Lib.hid (fun i (h : i < L) => HPG.out n i hn (by rw [HLL.out.1]; exact h))
      have HNX := Lib.hid (show Rsh.pst (n + 1) = if Rsh.isP (Rsh.pst n) c = true then Rsh.pst n ++ [c] else Rsh.pst n by rw [HPS.out n, ← HN.out.1])
      have HCN := Lib.hid (show Rsh.cnt (n + 1) ≤ many by
        have h1 := HPL.out (n + 1) (by omega)
        have h2 := HMI.out
        have h3 : (Rsh.pst (n + 1)).length ≤ L + 1 := by
          rw [HNX.out]
          split
          · rw [List.length_append, HLL.out.1]; simp
          · rw [HLL.out.1]; omega
        omega)
      obtain ⟨q, hq⟩ : ∃ q, Rsh.isP (Rsh.pst n) c = q := ⟨_, rfl⟩
      rw [hq] at HPI HNX
      clear hq
      go_wp2
      go_loopw [5, 6] (fun s5 s6 wx => ∃ (i : Nat) (pr : Bool) (m : Nat), i ≤ L ∧ s6 = .int .i64 i ∧ s5 = .bool pr ∧ Hid ((pr = true → q = Rsh.tries (Rsh.pst n) c i (L - i + 1)) ∧ (pr = false → q = false)) ∧ wx = wr.drewN m) (fun _ s6 _ => L + 1 - (intOf s6).toNat)
      case atStart => exact ⟨0, true, 0, by omega, rfl, rfl, ⟨fun _ => HPI.out, fun h => by cases h⟩, rfl⟩
      case round =>
        obtain ⟨i, pr, m, hi, rfl, rfl, HQ, rfl⟩ := hrel
        have HOm := Lib.hid (show OwnU 68 w.heap.size (wr.drewN m) _ _ from HO.out)
        by_cases hil : i < L
        · cases pr with
          | true =>
            have hg := HGI.out i hil
            obtain ⟨b3, o3, k3, e3, _, _⟩ := HSL.out.open_ L HLL.out.1 (by omega)
            simp only [Value.slice.injEq] at e3
            obtain ⟨rfl, _, rfl⟩ := e3
            have c0 := HSL.out.cell i (by rw [HLL.out.1]; exact hil)
            unfold longV at c0
            have ht := HTS.out i (L - i)
            have hq0 := HQ.out.1 rfl
            rw [HLL.out.1] at ht
            obtain ⟨y, hy⟩ : ∃ y, (Rsh.pst n).getD i 0 = y := ⟨_, rfl⟩
            rw [hy] at hg c0 ht
            have hil' : (i : Int) < (L : Int) := by omega
            obtain ⟨sq, hsq⟩ : ∃ s, y * y = s := ⟨_, rfl⟩
            have hsb : sq ≤ 96721 := by rw [← hsq]; exact Nat.mul_le_mul hg.2 hg.2
            have e1 : (y : Int) * (y : Int) = (sq : Int) := by rw [← hsq]; simp
            have w1 : IntKind.u64.wrap ((y : Int) * (y : Int)) = (sq : Int) := by rw [e1, wrap_u64_mod]; omega
            have v1 : (y : Int) * (y : Int) % 18446744073709551616 = (sq : Int) := by rw [e1]; omega
            rw [hsq] at ht
            have hy0 := hg.1
            have hy1 : (0 : Int) < (y : Int) := by omega
            have HT := Lib.hid ht
            have HQ0 := Lib.hid hq0
            clear hg ht hq0 hsq HQ
            by_cases hle : sq ≤ c
            · have hle' : (sq : Int) ≤ (c : Int) := by omega
              by_cases hd : c % y = 0
              · have hq1 : q = false := HQ0.out.trans (HT.out.2.1 ⟨hil, hle⟩ hd)
                have hd' : (c : Int) % (y : Int) = 0 := by omega
                have HQ1 := Lib.hid hq1
                clear hq1 hd
                go_upto_region 7 with fail
                go_quiet (fail)
                go_wp2
                exact ⟨⟨i + 1, false, _, by omega, by go_num, rfl, ⟨(fun h => by cases h), fun _ => HQ1.out⟩, rfl⟩, by simp [intOf]; omega⟩
              · have hq1 : q = Rsh.tries (Rsh.pst n) c (i + 1) (L - (i + 1) + 1) := by
                  have h5 := HQ0.out.trans (HT.out.2.2 ⟨hil, hle⟩ hd)
                  rw [show L - i = L - (i + 1) + 1 by omega] at h5
                  exact h5
                obtain ⟨rm, hrm, hrm0⟩ : ∃ r : Nat, (c : Int) % (y : Int) = (r : Int) ∧ 0 < r := ⟨c % y, by omega, by omega⟩
                have hd2 : ((rm : Int) != 0) = true := by simp; omega
                have hd3 : ¬ (rm : Int) = 0 := by omega
                have hd4 : ¬ rm = 0 := by omega
                have HQ1 := Lib.hid hq1
                clear hq1 hd
                go_upto_region 7 with fail
                go_quiet (fail)
                go_wp2
                exact ⟨⟨i + 1, true, _, by omega, by go_num, rfl, ⟨fun _ => HQ1.out, fun h => by cases h⟩, rfl⟩, by simp [intOf]; omega⟩
            · have hle' : decide ((sq : Int) ≤ (c : Int)) = false := by simp; omega
              have hle'' : ¬ (sq : Int) ≤ (c : Int) := by omega
              obtain rfl : q = true := HQ0.out.trans (HT.out.1 (fun h => hle h.2))
              rw [if_pos rfl] at HNX
              clear hle HT HQ0
              go_upto_region 7 with fail
              go_quiet (fail)
              go_wp2_with (at_builtin; refine wpList_append_u rfl (.tmp 43) (.tmp 45) 90 68 rfl Tryd.underlying90 info_u64 w.heap.size _ _ (show OwnU 68 w.heap.size ((wr.drewN _).alloc _) _ _ from HO.out.alloc _) rfl _ [c] (one_long _ _ c rfl) rfl (by rw [HLL.out.1]; simp; omega) (by simp; omega) ?_; intro v9 w9 ho hg hn'; rw [← HNX.out] at ho; have HO9 := Lib.hid ho; have HB9 := Lib.hid (((Below.drewN HB.out _).alloc hsz _).grown hg (by simp; omega) (fun k e => (World.ownsRow.lt HO.out k e).1)); clear ho hg hn')
              exact ⟨⟨n + 1, c + 1, by omega, by go_num, Lib.hid ⟨by have := HN.out.1; omega, HCN.out⟩, HO9, HB9⟩, by simp [intOf]; omega⟩
          | false =>
            obtain rfl : q = false := HQ.out.2 rfl
            have hil' : (i : Int) < (L : Int) := by omega
            clear HQ
            go_upto_region 7 with fail
            go_quiet (fail)
            rw [if_neg (by simp)] at HNX
            go_wp2
            exact ⟨⟨n + 1, c + 1, by omega, by go_num, Lib.hid ⟨by have := HN.out.1; omega, HCN.out⟩, (by rw [HNX.out]; exact HO), Lib.hid (Below.drewN HB.out _)⟩, by simp [intOf]; omega⟩
        · have hil' : ¬ (i : Int) < (L : Int) := by omega
          have hil'' : decide ((i : Int) < (L : Int)) = false := by simp; omega
          obtain rfl : i = L := by omega
          cases pr with
          | true =>
            have ht := HTS.out i (i - i)
            have hq0 := HQ.out.1 rfl
            obtain rfl : q = true := hq0.trans (ht.1 (fun h => by have h1 := h.1; have h2 := HLL.out.1; omega))
            rw [if_pos rfl] at HNX
            clear ht hq0 HQ
            go_upto_region 7 with fail
            go_quiet (fail)
            go_wp2_with (at_builtin; refine wpList_append_u rfl (.tmp 43) (.tmp 45) 90 68 rfl Tryd.underlying90 info_u64 w.heap.size _ _ (show OwnU 68 w.heap.size ((wr.drewN _).alloc _) _ _ from HO.out.alloc _) rfl _ [c] (one_long _ _ c rfl) rfl (by rw [HLL.out.1]; simp; omega) (by simp; omega) ?_; intro v9 w9 ho hg hn'; rw [← HNX.out] at ho; have HO9 := Lib.hid ho; have HB9 := Lib.hid (((Below.drewN HB.out _).alloc hsz _).grown hg (by simp; omega) (fun k e => (World.ownsRow.lt HO.out k e).1)); clear ho hg hn')
            exact ⟨⟨n + 1, c + 1, by omega, by go_num, Lib.hid ⟨by have := HN.out.1; omega, HCN.out⟩, HO9, HB9⟩, by simp [intOf]; omega⟩
          | false =>
            obtain rfl : q = false := HQ.out.2 rfl
            clear HQ
            go_upto_region 7 with fail
            go_quiet (fail)
            rw [if_neg (by simp)] at HNX
            go_wp2
            exact ⟨⟨n + 1, c + 1, by omega, by go_num, Lib.hid ⟨by have := HN.out.1; omega, HCN.out⟩, (by rw [HNX.out]; exact HO), Lib.hid (Below.drewN HB.out _)⟩, by simp [intOf]; omega⟩
    · go_wp2
      go_ret
      have hLM : L = many := by
        have h1 := HN.out.2
        have h2 := HMI.out
        rw [HLL.out.2] at h1
        omega
      have he := HPE.out n hn
      rw [HLL.out.2, hLM] at he
      rw [he] at HO
      exact ⟨_, rfl, HO.out, HB.out⟩
end Go.Proofs.YtnoilogepkelaaaDoor
namespace Go.Proofs.YtnoilogepkelaaaDoor
set_option linter.unusedVariables false
set_option linter.unusedSimpArgs false
open Go Go.RowKit

theorem Rsh.starts_fill : fill (fun i => Rsh.root (Rsh.primes.getD i 0) 2) 0 8 8 = Sha.starts := by
  rw [fill_all]
  apply List.ext_getElem?
  intro j
  by_cases hj : j < 8
  · rw [List.getElem?_map, List.getElem?_range hj, Option.map_some, Rsh.starts_root j hj]
    have hl : Sha.starts.length = 8 := rfl
    simp [List.getD, hl, hj]
  · rw [List.getElem?_eq_none (by simp; omega), List.getElem?_eq_none (by show 8 ≤ j; omega)]
theorem Rsh.primes8 (i : Nat) (h : i < 8) : (Rsh.primes.take 8).getD i 0 = Rsh.primes.getD i 0 := by
  simp only [List.getD]
  rw [List.getElem?_take_of_lt h]

set_option maxRecDepth 100000 in
set_option maxHeartbeats 1000000 in
theorem rstart_any (w : World) : Calls Tryd.prog 30 #[] w fun e w' => e = .returned (.agg (words Sha.starts)) ∧ Below w.heap.size w w' := by
  have HP := Lib.hid (fun W => primes_any 8 8 (.inl ⟨rfl, rfl⟩) W)
  have HR := Lib.hid (fun p (hp : p ≤ 400) W => root_any p 2 2 (.inl ⟨rfl, rfl⟩) hp W)
  have HF := Lib.hid (fun j (h : j < 8) => fill_set (fun i => Rsh.root (Rsh.primes.getD i 0) 2) 0 8 j h)
  have HFL := Lib.hid (fun j (h : j ≤ 8) => fill_length (fun i => Rsh.root (Rsh.primes.getD i 0) 2) 0 8 j h)
  have HFZ := Lib.hid Rsh.starts_fill
  have HP8 := Lib.hid (fun i h => Rsh.primes8 i h)
  have HPL := Lib.hid Rsh.primes_le
  have HL8 := Lib.hid (show (Rsh.primes.take 8).length = 8 from rfl)
  have HIW := Lib.hid (fun (xs : List (BitVec 32)) (h : xs.length = 8) => (show (Tryd.prog.info? 26).map (·.size) = some (words xs).size by rw [words_size, h]; kernel_rfl))
  obtain ⟨F, hF⟩ : ∃ F : Nat → List (BitVec 32), ∀ j, fill (fun i => Rsh.root (Rsh.primes.getD i 0) 2) 0 8 j = F j := ⟨_, fun _ => rfl⟩
  simp only [hF] at HF HFL HFZ
  have hF0 : F 0 = List.replicate 8 0 := by rw [← hF, fill_zero]
  go_enter Tryd.func30, Tryd.ntmps30
  go_upto_region 2 with fail
  obtain ⟨X, hX, hBX, hXs, hX0, hX1⟩ := alloc2 w (.cells (words (List.replicate 8 0)) 26) (.cells (words (List.replicate 8 0)) 26)
  rw [show (w.alloc (.cells #[.int .u32 0, .int .u32 0, .int .u32 0, .int .u32 0, .int .u32 0, .int .u32 0, .int .u32 0, .int .u32 0] 26)).alloc (.cells #[.int .u32 0, .int .u32 0, .int .u32 0, .int .u32 0, .int .u32 0, .int .u32 0, .int .u32 0, .int .u32 0] 26) = X from hX]
  have HX := Lib.hid (And.intro hBX (And.intro hXs (And.intro hX0 hX1)))
  clear hX hBX hXs hX0 hX1 hF
  go_upto_region 3 with (go_at_call 65; refine (HP.out _).mono ?_; rintro e w1 ⟨v1, rfl, ho, hb⟩; have HO1 := Lib.hid ho; have HB1 := Lib.hid hb; clear ho hb)
  obtain ⟨g, cap, rfl, hgb, hgl, hgc, hsl⟩ := HO1.out.form 8 HL8.out (by omega)
  have hs := HX.out.2.1
  have hO := (HB1.out.block w.heap.size (by omega)).trans HX.out.2.2.1
  have hR := (HB1.out.block (w.heap.size + 1) (by omega)).trans HX.out.2.2.2
  rw [← hF0] at hR
  have HI := Lib.hid (show w1.heap[w.heap.size]? = some (.cells (words (List.replicate 8 0)) 26 (0, 0)) ∧ w1.heap[w.heap.size + 1]? = some (.cells (words (F 0)) 26 (0, 0)) ∧ SlU w1 (.slice (some ⟨g, 0, none⟩) 8 cap) (Rsh.primes.take 8) ∧ Below w.heap.size w w1 from ⟨hO, hR, hsl, HX.out.1.trans (HB1.out.mono (by omega))⟩)
  have hgR : w.heap.size + 1 < g := by omega
  clear hO hR hsl HO1 HB1 HX hF0 hgl
  go_wp2
  go_loopw [3] (fun s3 wr => ∃ i : Nat, i ≤ 8 ∧ s3 = .int .i64 i ∧ Hid (wr.heap[w.heap.size]? = some (.cells (words (List.replicate 8 0)) 26 (0, 0)) ∧ wr.heap[w.heap.size + 1]? = some (.cells (words (F i)) 26 (0, 0)) ∧ SlU wr (.slice (some ⟨g, 0, none⟩) 8 cap) (Rsh.primes.take 8) ∧ Below w.heap.size w wr)) (fun s3 _ => 8 - (intOf s3).toNat)
  case atStart => exact ⟨0, by omega, rfl, HI⟩
  case round =>
    clear HI
    obtain ⟨i, hi, rfl, HI⟩ := hrel
    by_cases hlt : i < 8
    · have c0 := HI.out.2.2.1.cell i (by rw [HL8.out]; exact hlt)
      rw [HP8.out i hlt] at c0
      unfold longV at c0
      rw [Nat.zero_add] at c0
      have c1 := (cell_of_row wr (w.heap.size + 1) i _ _ _ HI.out.2.1).trans (words_get? _ i (by rw [HFL.out i (by omega)]; exact hlt))
      have f1 := frozen_of_row wr (w.heap.size + 1) i _ _ HI.out.2.1
      have hpi := HPL.out i (by omega)
      have hset := HF.out i hlt
      generalize (F i).getD i 0 = z at c1
      obtain ⟨p, hp⟩ : ∃ p, Rsh.primes.getD i 0 = p := ⟨_, rfl⟩
      rw [hp] at c0 hpi hset
      have HRP := Lib.hid (fun W => HR.out p (by omega) W)
      obtain ⟨rt, hrt⟩ : ∃ rt, Rsh.root p 2 = rt := ⟨_, rfl⟩
      rw [hrt] at hset HRP
      have hn : (wr.setCell ⟨w.heap.size + 1, i, none⟩ (.int .u32 (wv rt))).heap[w.heap.size + 1]? = some (.cells (words (F (i + 1))) 26 (0, 0)) := by
        have h := heap_setCell_same wr (w.heap.size + 1) i _ _ (.int .u32 (wv rt)) HI.out.2.1
        rwa [words_set, hset] at h
      have HN := Lib.hid (show (wr.setCell ⟨w.heap.size + 1, i, none⟩ (.int .u32 (wv rt))).heap[w.heap.size]? = some (.cells (words (List.replicate 8 0)) 26 (0, 0)) ∧ (wr.setCell ⟨w.heap.size + 1, i, none⟩ (.int .u32 (wv rt))).heap[w.heap.size + 1]? = some (.cells (words (F (i + 1))) 26 (0, 0)) ∧ SlU (wr.setCell ⟨w.heap.size + 1, i, none⟩ (.int .u32 (wv rt))) (.slice (some ⟨g, 0, none⟩) 8 cap) (Rsh.primes.take 8) ∧ Below w.heap.size w (wr.setCell ⟨w.heap.size + 1, i, none⟩ (.int .u32 (wv rt))) from
        ⟨(heap_setCell_other _ _ _ _ (by simp)).trans HI.out.1, hn, HI.out.2.2.1.setCell (by omega) _, HI.out.2.2.2.setCell (p := ⟨w.heap.size + 1, i, none⟩) (by simp) _⟩)
      clear hn hset hp hrt hpi HF
      go_wp2_with (go_at_call 66; refine (HRP.out _).mono ?_; rintro e w' ⟨rfl, rfl⟩)
      exact ⟨⟨i + 1, by omega, by go_num, HN⟩, by simp [intOf]; omega⟩
    · obtain rfl : i = 8 := by omega
      rw [HFZ.out] at HI
      go_wp2_with (first
        | (refine wpList_load_row rfl 26 (.tmp 1) rfl (w.heap.size + 1) rfl _ _ _ _ HI.out.2.1 Tryd.underlying26 rfl (HIW.out _ rfl) ?_)
        | (refine wpList_store_row rfl 26 (.tmp 0) (.tmp 16) rfl w.heap.size _ rfl rfl _ _ HI.out.1 (HIW.out _ rfl) (by rfl) (words_one _) ?_))
      exact bodyPost_ret (results_cell_row Tryd.results30 _ _ w.heap.size _ _ _ _ rfl (setRow_heap _ _ _ _ _ _ HI.out.1) Tryd.underlying26 rfl (HIW.out _ rfl)) rfl ⟨rfl, HI.out.2.2.2.trans (((Kept.refl [w.heap.size] wr).setRow (by simp) _).toBelow (B := w.heap.size) (by simp) HI.out.2.2.2.size)⟩

def Rsh.addsN (k : Nat) : List (BitVec 32) := (List.range k).map fun i => Rsh.root (Rsh.primes.getD i 0) 3
theorem Rsh.addsN_succ (k : Nat) : Rsh.addsN (k + 1) = Rsh.addsN k ++ [Rsh.root (Rsh.primes.getD k 0) 3] := by simp [Rsh.addsN, List.range_succ]
theorem Rsh.addsN_length (k : Nat) : (Rsh.addsN k).length = k := by simp [Rsh.addsN]
theorem Rsh.addsN_all : Rsh.addsN 64 = Sha.adds := by
  apply List.ext_getElem?
  intro j
  by_cases hj : j < 64
  · rw [Rsh.addsN, List.getElem?_map, List.getElem?_range hj, Option.map_some, Rsh.adds_root j hj]
    have hl : Sha.adds.length = 64 := rfl
    simp [List.getD, hl, hj]
  · rw [List.getElem?_eq_none (by rw [Rsh.addsN_length]; omega), List.getElem?_eq_none (by show 64 ≤ j; omega)]

set_option maxRecDepth 100000 in
set_option maxHeartbeats 1000000 in
theorem radds_any (w : World) : Calls Tryd.prog 68 #[] w (RetW w Sha.adds) := by
  have HP := Lib.hid (fun W => primes_any 64 64 (.inr ⟨rfl, rfl⟩) W)
  have HR := Lib.hid (fun p (hp : p ≤ 400) W => root_any p 3 3 (.inr ⟨rfl, rfl⟩) hp W)
  rw [show Rsh.primes.take 64 = Rsh.primes from rfl] at HP
  have HPL := Lib.hid Rsh.primes_le
  have HL := Lib.hid (show Rsh.primes.length = 64 from rfl)
  have HS := Lib.hid Rsh.addsN_succ
  have HSL := Lib.hid Rsh.addsN_length
  have HSA := Lib.hid Rsh.addsN_all
  go_enter Tryd.func68, Tryd.ntmps68
  go_upto_region 3 with (go_at_call 65; refine (HP.out _).mono ?_; rintro e w1 ⟨v1, rfl, ho, hb⟩; have HO1 := Lib.hid ho; have HB1 := Lib.hid hb; clear ho hb)
  obtain ⟨g, cap, rfl, hgb, hgl, hgc, hsl⟩ := HO1.out.form 64 HL.out (by omega)
  have HSU := Lib.hid hsl
  have hz1 := HB1.out.size
  clear hsl HO1
  go_wp2
  go_loopw [1, 3] (fun s1 s3 wr => ∃ i : Nat, i ≤ 64 ∧ s3 = .int .i64 i ∧ Hid (OwnW 25 w1.heap.size wr s1 (Rsh.addsN i)) ∧ Hid (Below w1.heap.size w1 wr)) (fun _ s3 _ => 64 - (intOf s3).toNat)
  case atStart => exact ⟨0, by omega, rfl, OwnW.nil _ _ _, Below.refl _ _⟩
  case round =>
    obtain ⟨i, hi, rfl, HO, HB⟩ := hrel
    have hsz := HB.out.size
    by_cases hlt : i < 64
    · have c0 := (HSU.out.below HB.out (Nat.le_refl _)).cell i (by rw [HL.out]; exact hlt)
      unfold longV at c0
      rw [Nat.zero_add] at c0
      have hpi := HPL.out i hlt
      have hs := HS.out i
      obtain ⟨p, hp⟩ : ∃ p, Rsh.primes.getD i 0 = p := ⟨_, rfl⟩
      rw [hp] at c0 hpi hs
      have HRP := Lib.hid (fun W => HR.out p (by omega) W)
      obtain ⟨rt, hrt⟩ : ∃ rt, Rsh.root p 3 = rt := ⟨_, rfl⟩
      rw [hrt] at hs HRP
      have HSI := Lib.hid hs
      clear hs hp hrt hpi
      go_wp2_with (first
        | (go_at_call 66; refine (HRP.out _).mono ?_; rintro e w' ⟨rfl, rfl⟩)
        | (at_builtin; refine wpList_append_w rfl (.tmp 15) (.tmp 17) 94 25 rfl Tryd.underlying94 info_u32 w1.heap.size _ _ (HO.out.alloc _) rfl _ [rt] (one_word _ _ rt rfl) rfl (by rw [HSL.out]; simp; omega) (by simp; omega) ?_; intro v9 w9 ho hg hn'; rw [← HSI.out] at ho; have HO9 := Lib.hid ho; have HB9 := Lib.hid ((HB.out.alloc hsz _).grown hg (by simp; omega) (fun k e => (World.ownsRow.lt HO.out k e).1)); clear ho hg hn'))
      exact ⟨⟨i + 1, by omega, by go_num, HO9, HB9⟩, by simp [intOf]; omega⟩
    · obtain rfl : i = 64 := by omega
      rw [HSA.out] at HO
      go_wp2
      go_ret
      exact ⟨_, rfl, HO.out.mono hz1, HB1.out.trans (HB.out.mono hz1)⟩
end Go.Proofs.YtnoilogepkelaaaDoor
namespace Go.Proofs.YtnoilogepkelaaaDoor
set_option linter.unusedVariables false
set_option linter.unusedSimpArgs false
open Go Go.RowKit
attribute [local go_sem] u32_add u32_sub u32_xor u32_or u32_and' u32_shl u32_shr

theorem rr_any (x : BitVec 32) (n : Nat) (h0 : 0 < n) (h1 : n < 32) (w : World) :
    Calls Tryd.prog 93 #[.int .u32 (wv x), .int .u64 (n : Int)] w fun e w' => e = .returned (.int .u32 (wv (Sha.rr x n))) ∧ w = w' := by
  obtain ⟨k, hk⟩ : ∃ k, 32 - n = k := ⟨_, rfl⟩
  have he : x >>> n ||| x <<< k = Sha.rr x n := by
    unfold Sha.rr
    rw [hk, rot_eq x k (by omega), BitVec.or_comm, show 32 - k = n by omega]
  have HE := Lib.hid he
  have e1 : (32 : Int) - (n : Int) = (k : Int) := by omega
  have w1 : IntKind.u64.wrap ((32 : Int) - (n : Int)) = (k : Int) := by rw [e1, wrap_u64_mod]; omega
  have v1 : ((32 : Int) - (n : Int)) % 18446744073709551616 = (k : Int) := by rw [e1]; omega
  have hk32 : k < 32 := by omega
  clear he hk
  generalize Sha.rr x n = r at *
  go_enter Tryd.func93, Tryd.ntmps93
  go_wp2
  go_ret
  exact ⟨ret_int (by rw [HE.out]), rfl⟩
theorem rs_any (x : BitVec 32) (n : Nat) (h1 : n < 32) (w : World) :
    Calls Tryd.prog 99 #[.int .u32 (wv x), .int .u64 (n : Int)] w fun e w' => e = .returned (.int .u32 (wv (x >>> n))) ∧ w = w' := by
  go_enter Tryd.func99, Tryd.ntmps99
  go_wp2
  go_ret
  exact ⟨rfl, rfl⟩

theorem Rsh.shl_add (x : BitVec 32) (y : BitVec 8) : (x <<< 8) + y.setWidth 32 = x <<< 8 ||| y.setWidth 32 := by
  refine BitVec.add_eq_or_of_and_eq_zero _ _ ?_
  ext i hi
  simp only [BitVec.getElem_and, BitVec.getElem_shiftLeft, BitVec.getElem_setWidth]
  by_cases h : i < 8
  · simp [h]
  · rw [BitVec.getLsbD_of_ge y i (by omega)]
    simp
theorem Rsh.mul256 (x : BitVec 32) : (256 : Int) * wv x % (4294967296 : Int) = wv (x <<< 8) := by
  unfold wv
  rw [BitVec.toNat_shiftLeft, Nat.shiftLeft_eq]
  omega
theorem Rsh.add8 (x : BitVec 32) (y : BitVec 8) : (wv (x <<< 8) + wv (y.setWidth 32)) % (4294967296 : Int) = wv (x <<< 8 ||| y.setWidth 32) := by
  rw [← wrap_u32_mod, u32_add, Rsh.shl_add]

set_option maxRecDepth 100000 in
set_option maxHeartbeats 4000000 in
theorem schedule_any (b : List (BitVec 8)) (hb : b.length = 64) (v : Value) (w : World) (hs : SlB w v b) : Calls Tryd.prog 92 #[v] w (RetW w (Sha.sched b 64)) := by
  obtain ⟨b0, o0, cap0, rfl, hc0, _⟩ := hs.open_ 64 hb (by omega)
  have HS := Lib.hid hs
  have HBL := Lib.hid hb
  have HN := Lib.hid (fun n => (show Sha.sched b (n + 1) = Sha.sched b n ++ [Sha.next b (Sha.sched b n) n] from rfl))
  have HNX := Lib.hid (fun ws n => (show Sha.next b ws n = if n < 16 then Sha.wordAt b n else ws.getD (n - 16) 0 + Sha.small (ws.getD (n - 15) 0) 7 18 3 + ws.getD (n - 7) 0 + Sha.small (ws.getD (n - 2) 0) 17 19 10 from rfl))
  have HL := Lib.hid (fun n => Sha.sched_length b n)
  have HPW := Lib.hid (fun p k => (show Sha.pw b p (k + 1) = Sha.pw b p k <<< 8 ||| (b.getD (4 * p + k) 0).setWidth 32 from rfl))
  have HP4 := Lib.hid (fun p => Sha.pw_four b p)
  have HP0 := Lib.hid (fun p => (show Sha.pw b p 0 = 0 from rfl))
  clear hs hb
  go_enter Tryd.func92, Tryd.ntmps92
  go_wp2
  go_loopw [3, 4] (fun s3 s4 wr => ∃ i : Nat, i ≤ 64 ∧ s4 = .int .i64 i ∧ Hid (OwnW 25 w.heap.size wr s3 (Sha.sched b i)) ∧ Hid (Below w.heap.size w wr)) (fun _ s4 _ => 64 - (intOf s4).toNat)
  case atStart => exact ⟨0, by omega, rfl, OwnW.nil _ _ _, Below.refl _ _⟩
  case round =>
    obtain ⟨i, hi, rfl, HO, HB⟩ := hrel
    have hsz := HB.out.size
    by_cases h64 : i < 64
    · by_cases h16 : i < 16
      · have hn := HN.out i
        rw [HNX.out, if_pos h16] at hn
        have HSC := Lib.hid hn
        have HSW := Lib.hid (HS.out.below HB.out (Nat.le_refl _))
        clear hn
        go_wp2
        go_loop [5, 6] (fun s5 s6 => ∃ j q : Nat, j ≤ 4 ∧ q = 4 * i + j ∧ s6 = .int .i64 q ∧ s5 = .int .u32 (wv (Sha.pw b i j))) (fun _ s6 => 300 - (intOf s6).toNat)
        case atStart => exact ⟨0, 4 * i, by omega, by omega, by go_num, by rw [HP0.out]; rfl⟩
        case round =>
          obtain ⟨j, q, hj, hq, rfl, rfl⟩ := hrel
          by_cases hj4 : j < 4
          · have hqi : (q : Int) < 4 * (i : Int) + 4 := by omega
            have c0 := HSW.out.cell q (by rw [HBL.out]; omega)
            unfold byteV at c0
            have hp := HPW.out i j
            rw [← hq] at hp
            have hq64 : (q : Int) < 64 := by omega
            generalize b.getD q 0 = y at c0 hp
            generalize Sha.pw b i j = x at hp ⊢
            have HP := Lib.hid hp
            have HQ := Lib.hid hq
            have m1 := Rsh.mul256 x
            have m2 := Rsh.add8 x y
            have m3 : IntKind.u32.wrap ((256 : Int) * wv x) = wv (x <<< 8) := by rw [wrap_u32_mod]; exact m1
            have m4 : IntKind.u32.wrap (wv (x <<< 8) + wv (y.setWidth 32)) = wv (x <<< 8 ||| y.setWidth 32) := by rw [wrap_u32_mod]; exact m2
            have hy : bv y = wv (y.setWidth 32) := by rw [← u8_to_u32, wrap_u32_mod]; have := bv_nonneg y; have := bv_lt y; omega
            have hyw : wv (y.setWidth 32) % (4294967296 : Int) = wv (y.setWidth 32) := Int.emod_eq_of_lt (wv_nonneg _) (wv_lt _)
            clear hp hq
            go_wp2
            exact ⟨⟨j + 1, q + 1, by omega, by have := HQ.out; omega, by go_num, by rw [HP.out]⟩, by simp [intOf]; omega⟩
          · obtain rfl : j = 4 := by omega
            have hqi : ¬ (q : Int) < 4 * (i : Int) + 4 := by omega
            rw [HP4.out]
            go_wp2_with (at_builtin; refine wpList_append_w rfl (.tmp 33) (.tmp 35) 94 25 rfl Tryd.underlying94 info_u32 w.heap.size _ _ (HO.out.alloc _) rfl _ [Sha.wordAt b i] (one_word _ _ _ rfl) rfl (by rw [HL.out]; simp; omega) (by simp; omega) ?_; intro v9 w9 ho hg hn'; rw [← HSC.out] at ho; have HO9 := Lib.hid ho; have HB9 := Lib.hid ((HB.out.alloc hsz _).grown hg (by simp; omega) (fun k e => (World.ownsRow.lt HO.out k e).1)); clear ho hg hn')
            exact ⟨⟨i + 1, by omega, by go_num, HO9, HB9⟩, by simp [intOf]; omega⟩
      · have hn := HN.out i
        rw [HNX.out, if_neg h16] at hn
        obtain ⟨g, cap, rfl, hgb, hgl, hgc, hsl⟩ := HO.out.form i (HL.out i) (by omega)
        have c15 := hsl.cell (i - 15) (by rw [HL.out]; omega)
        have c2 := hsl.cell (i - 2) (by rw [HL.out]; omega)
        have c16 := hsl.cell (i - 16) (by rw [HL.out]; omega)
        have c7 := hsl.cell (i - 7) (by rw [HL.out]; omega)
        unfold wordV at c15 c2 c16 c7
        rw [Nat.zero_add] at c15 c2 c16 c7
        generalize (Sha.sched b i).getD (i - 15) 0 = x at c15 hn
        generalize (Sha.sched b i).getD (i - 2) 0 = y at c2 hn
        generalize (Sha.sched b i).getD (i - 16) 0 = z at c16 hn
        generalize (Sha.sched b i).getD (i - 7) 0 = t at c7 hn
        unfold Sha.small at hn
        have HX1 := Lib.hid (fun W => (show Calls Tryd.prog 93 #[.int .u32 (wv x), .int .u64 7] W fun e w' => e = .returned (.int .u32 (wv (Sha.rr x 7))) ∧ w' = W from (rr_any x 7 (by omega) (by omega) W).mono fun _ _ h => ⟨h.1, h.2.symm⟩))
        have HX2 := Lib.hid (fun W => (show Calls Tryd.prog 93 #[.int .u32 (wv x), .int .u64 18] W fun e w' => e = .returned (.int .u32 (wv (Sha.rr x 18))) ∧ w' = W from (rr_any x 18 (by omega) (by omega) W).mono fun _ _ h => ⟨h.1, h.2.symm⟩))
        have HX3 := Lib.hid (fun W => (show Calls Tryd.prog 99 #[.int .u32 (wv x), .int .u64 3] W fun e w' => e = .returned (.int .u32 (wv (x >>> 3))) ∧ w' = W from (rs_any x 3 (by omega) W).mono fun _ _ h => ⟨h.1, h.2.symm⟩))
        have HY1 := Lib.hid (fun W => (show Calls Tryd.prog 93 #[.int .u32 (wv y), .int .u64 17] W fun e w' => e = .returned (.int .u32 (wv (Sha.rr y 17))) ∧ w' = W from (rr_any y 17 (by omega) (by omega) W).mono fun _ _ h => ⟨h.1, h.2.symm⟩))
        have HY2 := Lib.hid (fun W => (show Calls Tryd.prog 93 #[.int .u32 (wv y), .int .u64 19] W fun e w' => e = .returned (.int .u32 (wv (Sha.rr y 19))) ∧ w' = W from (rr_any y 19 (by omega) (by omega) W).mono fun _ _ h => ⟨h.1, h.2.symm⟩))
        have HY3 := Lib.hid (fun W => (show Calls Tryd.prog 99 #[.int .u32 (wv y), .int .u64 10] W fun e w' => e = .returned (.int .u32 (wv (y >>> 10))) ∧ w' = W from (rs_any y 10 (by omega) W).mono fun _ _ h => ⟨h.1, h.2.symm⟩))
        have HH := Lib.hid hn
        have i0 : ¬ (i : Int) < 16 := by omega
        have w15 : IntKind.i64.wrap ((i : Int) - 15) = (i : Int) - 15 ∧ (0 : Int) ≤ (i : Int) - 15 ∧ (i : Int) - 15 < i ∧ ((i : Int) - 15).toNat = i - 15 := by rw [IntKind.wrap_i64]; omega
        have w2' : IntKind.i64.wrap ((i : Int) - 2) = (i : Int) - 2 ∧ (0 : Int) ≤ (i : Int) - 2 ∧ (i : Int) - 2 < i ∧ ((i : Int) - 2).toNat = i - 2 := by rw [IntKind.wrap_i64]; omega
        have w16 : IntKind.i64.wrap ((i : Int) - 16) = (i : Int) - 16 ∧ (0 : Int) ≤ (i : Int) - 16 ∧ (i : Int) - 16 < i ∧ ((i : Int) - 16).toNat = i - 16 := by rw [IntKind.wrap_i64]; omega
        have w7 : IntKind.i64.wrap ((i : Int) - 7) = (i : Int) - 7 ∧ (0 : Int) ≤ (i : Int) - 7 ∧ (i : Int) - 7 < i ∧ ((i : Int) - 7).toNat = i - 7 := by rw [IntKind.wrap_i64]; omega
        obtain ⟨p15, q15, r15, s15⟩ := w15
        obtain ⟨p2, q2, r2, s2⟩ := w2'
        obtain ⟨p16, q16, r16, s16⟩ := w16
        obtain ⟨p7, q7, r7, s7⟩ := w7
        clear hn hsl
        go_upto_region 14 with fail
        go_quiet ((first
          | (go_at_call 93; with_reducible exact Calls.quiet_of_same (HX1.out _)) | (go_at_call 93; with_reducible exact Calls.quiet_of_same (HX2.out _)) | (go_at_call 99; with_reducible exact Calls.quiet_of_same (HX3.out _))
          | (go_at_call 93; with_reducible exact Calls.quiet_of_same (HY1.out _)) | (go_at_call 93; with_reducible exact Calls.quiet_of_same (HY2.out _)) | (go_at_call 99; with_reducible exact Calls.quiet_of_same (HY3.out _))))
        go_wp2_with (at_builtin; refine wpList_append_w rfl (.tmp 76) (.tmp 78) 94 25 rfl Tryd.underlying94 info_u32 w.heap.size _ _ (show OwnW 25 w.heap.size ((wr.drewN _).alloc _) _ _ from HO.out.alloc _) rfl _ [_] (one_word _ _ _ rfl) rfl (by rw [HL.out]; simp; omega) (by simp; omega) ?_; intro v9 w9 ho hg hn'; rw [← HH.out] at ho; have HO9 := Lib.hid ho; have HB9 := Lib.hid (((Below.drewN HB.out _).alloc hsz _).grown hg (by simp; omega) (fun k e => (World.ownsRow.lt HO.out k e).1)); clear ho hg hn')
        exact ⟨⟨i + 1, by omega, by go_num, HO9, HB9⟩, by simp [intOf]; omega⟩
    · obtain rfl : i = 64 := by omega
      go_wp2
      go_ret
      exact ⟨_, rfl, HO.out, HB.out⟩
end Go.Proofs.YtnoilogepkelaaaDoor
namespace Go.Proofs.YtnoilogepkelaaaDoor
set_option linter.unusedVariables false
set_option linter.unusedSimpArgs false
open Go Go.RowKit
attribute [local go_sem] u32_shr8 u32_shr16 u32_shr24 u32_to_u8

set_option maxRecDepth 100000 in
set_option maxHeartbeats 4000000 in
theorem rtold_any (ws : List (BitVec 32)) (hw : ws.length = 8) (w : World) : Calls Tryd.prog 69 #[.agg (words ws)] w fun e w' => e = .returned (.agg (bytes (Sha.told ws))) ∧ Below w.heap.size w w' := by
  have HIH := Lib.hid (fun (xs : List (BitVec 8)) (h : xs.length = 32) => (show (Tryd.prog.info? 32).map (·.size) = some (bytes xs).size by rw [bytes_size, h]; kernel_rfl))
  have HW := Lib.hid hw
  obtain ⟨wb, hwb⟩ : ∃ wb, words ws = wb := ⟨_, rfl⟩
  rw [hwb]
  have HWB := Lib.hid hwb
  clear hw hwb
  go_enter Tryd.func69, Tryd.ntmps69
  go_upto_region 2 with fail
  obtain ⟨X, hX, hBX, hXs, hX0, hX1, hX2⟩ := alloc3 w (.cells wb 26) (.cells (bytes (List.replicate 32 0)) 32) (.cells (bytes (fill (Sha.tbyte ws) 0 32 0)) 32)
  have hX' := hX
  simp only [fill, bytes, List.range_zero, List.map_nil, List.nil_append, Nat.sub_zero, List.replicate, List.map] at hX'
  rw [show (Value.int .u8 (bv 0)) = .int .u8 0 from rfl] at hX'
  rw [hX']
  have H0 := Lib.hid hX0
  have H1 := Lib.hid hX1
  have H2 := Lib.hid hX2
  have HB := Lib.hid hBX
  rw [← HWB.out] at H0
  clear hX hX' hBX hXs hX0 hX1 hX2
  go_wp2
  go_loopw [4] (fun s wr => ∃ i : Nat, i ≤ 32 ∧ s = .int .i64 i ∧ Hid (wr.heap[w.heap.size]? = some (.cells (words ws) 26 (0, 0)) ∧ wr.heap[w.heap.size + 1]? = some (.cells (bytes (List.replicate 32 0)) 32 (0, 0))) ∧
    Hid (wr.heap[w.heap.size + 1 + 1]? = some (.cells (bytes (fill (Sha.tbyte ws) 0 32 i)) 32 (0, 0))) ∧ Hid (Below w.heap.size w wr)) (fun s _ => 32 - (intOf s).toNat)
  case atStart => exact ⟨0, by omega, rfl, Lib.hid ⟨H0.out, H1.out⟩, H2, HB⟩
  case round =>
    clear H0 H1 H2 HB
    obtain ⟨i, hi, rfl, H0, H2, HB⟩ := hrel
    by_cases hlt : i < 32
    · have hfl := fill_length (Sha.tbyte ws) 0 32 i (by omega)
      have o0 := (cell_of_row wr (w.heap.size + 1 + 1) i _ _ _ H2.out).trans (bytes_get? _ i (by rw [hfl]; omega))
      have f0 := frozen_of_row wr (w.heap.size + 1 + 1) i _ _ H2.out
      have c0 := (cell_of_row wr w.heap.size (i / 4) _ _ _ H0.out.1).trans (words_get? ws (i / 4) (by rw [HW.out]; omega))
      have hn : ((wr.setCell ⟨w.heap.size + 1 + 1, i, none⟩ (.int .u8 (bv (Sha.tbyte ws i))))).heap[w.heap.size + 1 + 1]? = some (.cells (bytes (fill (Sha.tbyte ws) 0 32 (i + 1))) 32 (0, 0)) := by
        have h := heap_setCell_same wr (w.heap.size + 1 + 1) i _ _ (.int .u8 (bv (Sha.tbyte ws i))) H2.out
        rwa [bytes_set, fill_set _ _ _ _ hlt] at h
      have hk0 : (wr.setCell ⟨w.heap.size + 1 + 1, i, none⟩ (.int .u8 (bv (Sha.tbyte ws i)))).heap[w.heap.size]? = some (.cells (words ws) 26 (0, 0)) := (heap_setCell_other _ _ _ _ (by simp; omega)).trans H0.out.1
      have hk1 : (wr.setCell ⟨w.heap.size + 1 + 1, i, none⟩ (.int .u8 (bv (Sha.tbyte ws i)))).heap[w.heap.size + 1]? = some (.cells (bytes (List.replicate 32 0)) 32 (0, 0)) := (heap_setCell_other _ _ _ _ (by simp)).trans H0.out.2
      have hbl := HB.out.setCell (p := ⟨w.heap.size + 1 + 1, i, none⟩) (by simp; omega) (.int .u8 (bv (Sha.tbyte ws i)))
      obtain ⟨q, j, hq, hj⟩ : ∃ q j : Nat, i = 4 * q + j ∧ j < 4 := ⟨i / 4, i % 4, by omega, by omega⟩
      have ht : Sha.tbyte ws i = Sha.byteOf (ws.getD q 0) j := by rw [hq]; exact Sha.tbyte_at ws q j hj
      rw [show i / 4 = q by omega] at c0
      rw [ht] at hn hk0 hk1 hbl
      have hqi : (i : Int) / 4 = q := by omega
      have hq8 : (q : Int) < 8 := by omega
      have hji : (i : Int) % 4 = j := by omega
      generalize (fill (Sha.tbyte ws) 0 32 i).getD i 0 = z0 at o0
      generalize ws.getD q 0 = x at c0 hn hk0 hk1 hbl
      clear hfl ht hq
      have h4 : j = 0 ∨ j = 1 ∨ j = 2 ∨ j = 3 := by omega
      rcases h4 with rfl | rfl | rfl | rfl
      · rw [show bv (Sha.byteOf x 0) = wv x / 16777216 % 256 from (sbyteOf_div x 0).symm] at hn hk0 hk1 hbl
        have HN := Lib.hid hn; have HK := Lib.hid (And.intro hk0 hk1); have HBL := Lib.hid hbl
        clear hn hk0 hk1 hbl hj
        rw [show ((0 : Nat) : Int) = 0 from rfl] at hji
        go_wp2
        exact ⟨⟨i + 1, by omega, by go_num, HK, HN, HBL⟩, by simp [intOf]; omega⟩
      · rw [show bv (Sha.byteOf x 1) = wv x / 65536 % 256 from (sbyteOf_div x 1).symm] at hn hk0 hk1 hbl
        have HN := Lib.hid hn; have HK := Lib.hid (And.intro hk0 hk1); have HBL := Lib.hid hbl
        clear hn hk0 hk1 hbl hj
        rw [show ((1 : Nat) : Int) = 1 from rfl] at hji
        go_wp2
        exact ⟨⟨i + 1, by omega, by go_num, HK, HN, HBL⟩, by simp [intOf]; omega⟩
      · rw [show bv (Sha.byteOf x 2) = wv x / 256 % 256 from (sbyteOf_div x 2).symm] at hn hk0 hk1 hbl
        have HN := Lib.hid hn; have HK := Lib.hid (And.intro hk0 hk1); have HBL := Lib.hid hbl
        clear hn hk0 hk1 hbl hj
        rw [show ((2 : Nat) : Int) = 2 from rfl] at hji
        go_wp2
        exact ⟨⟨i + 1, by omega, by go_num, HK, HN, HBL⟩, by simp [intOf]; omega⟩
      · rw [show bv (Sha.byteOf x 3) = bv (x.setWidth 8) by simp [Sha.byteOf]] at hn hk0 hk1 hbl
        have HN := Lib.hid hn; have HK := Lib.hid (And.intro hk0 hk1); have HBL := Lib.hid hbl
        clear hn hk0 hk1 hbl hj
        rw [show ((3 : Nat) : Int) = 3 from rfl] at hji
        go_wp2
        exact ⟨⟨i + 1, by omega, by go_num, HK, HN, HBL⟩, by simp [intOf]; omega⟩
    · obtain rfl : i = 32 := by omega
      rw [fill_all, ← Sha.told_eq] at H2
      have hI := Lib.hid (HIH.out (Sha.told ws) (Sha.told_length ws))
      go_wp2_with (first
        | (refine wpList_load_row rfl 32 (.tmp 3) rfl (w.heap.size + 1 + 1) rfl _ _ _ _ H2.out Tryd.underlying32 rfl hI.out ?_)
        | (refine wpList_store_row rfl 32 (.tmp 2) (.tmp 22) rfl (w.heap.size + 1) _ rfl rfl _ _ H0.out.2 hI.out (by rw [bytes_size, bytes_size, Sha.told_length]; rfl) (bytes_one _) ?_))
      exact bodyPost_ret (results_cell_row Tryd.results69 _ _ (w.heap.size + 1) _ _ _ _ rfl (setRow_heap _ _ _ _ _ _ H0.out.2) Tryd.underlying32 rfl hI.out) rfl ⟨rfl, HB.out.trans (((Kept.refl [w.heap.size + 1] wr).setRow (by simp) _).toBelow (B := w.heap.size) (by simp) HB.out.size)⟩
end Go.Proofs.YtnoilogepkelaaaDoor
namespace Go.Proofs.YtnoilogepkelaaaDoor
set_option linter.unusedVariables false
set_option linter.unusedSimpArgs false
open Go Go.RowKit
attribute [local go_sem] u32_add u32_sub u32_xor u32_or u32_and' u32_shl u32_shr

/-- What mix holds between its rounds. -/
structure RmI (w : World) (V : Nat) (ws vs : List (BitVec 32)) (L A : Value) (sc : List (BitVec 32)) (wr : World) : Prop where
  lt : w.heap.size + 1 < V ∧ V < wr.heap.size
  w_ : wr.heap[w.heap.size]? = some (.cells (words ws) 26 (0, 0))
  out : wr.heap[w.heap.size + 1]? = some (.cells (words (List.replicate 8 0)) 26 (0, 0))
  v : wr.heap[V]? = some (.cells (words vs) 26 (0, 0))
  sl : SlW wr L sc
  ad : SlW wr A Sha.adds
  apart : (∀ k, L.ownBlock = some k → k ≠ V) ∧ (∀ k, A.ownBlock = some k → k ≠ V)
  below : Below w.heap.size w wr
theorem SlW.keptR {w w' : World} {v : Value} {xs : List (BitVec 32)} {V : Nat} (h : SlW w v xs) (hk : Kept [V] w w') (hl : ∀ k, v.ownBlock = some k → k ≠ V) : SlW w' v xs := by
  rcases h with h | ⟨b, off, cap, rfl, h1, h2, h3, h4⟩
  · exact .inl h
  · refine .inr ⟨b, off, cap, rfl, h1, h2, Nat.lt_of_lt_of_le h3 hk.size, fun j hj => ?_⟩
    rw [hk.cell b (off + j) h3 (by simp; exact hl b rfl)]
    exact h4 j hj
theorem RmI.drewN {w : World} {V : Nat} {ws vs : List (BitVec 32)} {L A : Value} {sc : List (BitVec 32)} {wr : World} (h : RmI w V ws vs L A sc wr) (n : Nat) : RmI w V ws vs L A sc (wr.drewN n) :=
  ⟨h.lt, h.w_, h.out, h.v, h.sl, h.ad, h.apart, Below.drewN h.below n⟩
theorem RmI.drew {w : World} {V : Nat} {ws vs : List (BitVec 32)} {L A : Value} {sc : List (BitVec 32)} {wr : World} (h : RmI w V ws vs L A sc wr) : RmI w V ws vs L A sc wr.drew :=
  ⟨h.lt, h.w_, h.out, h.v, h.sl, h.ad, h.apart, h.below.drew⟩
theorem RmI.kept {w : World} {V : Nat} {ws vs vs' : List (BitVec 32)} {L A : Value} {sc : List (BitVec 32)} {wr w' : World} (h : RmI w V ws vs L A sc wr) (hk : Kept [V] wr w') (hv : w'.heap[V]? = some (.cells (words vs') 26 (0, 0))) : RmI w V ws vs' L A sc w' := by
  have hl := h.lt
  have hb := h.below.size
  exact ⟨⟨h.lt.1, by have := hk.size; omega⟩, (hk.block _ (by omega) (by simp; omega)).trans h.w_, (hk.block _ (by omega) (by simp; omega)).trans h.out, hv, h.sl.keptR hk h.apart.1, h.ad.keptR hk h.apart.2, h.apart, h.below.trans (hk.toBelow (by simp; omega) hb)⟩
theorem RmI.set {w : World} {V : Nat} {ws vs : List (BitVec 32)} {L A : Value} {sc : List (BitVec 32)} {wr : World} (h : RmI w V ws vs L A sc wr) (p : Nat) (x : BitVec 32) : RmI w V ws (vs.set p x) L A sc (wr.setCell ⟨V, p, none⟩ (.int .u32 (wv x))) := by
  refine h.kept ((Kept.refl [V] wr).setCell (by simp) _) ?_
  have h2 := heap_setCell_same wr V p _ _ (.int .u32 (wv x)) h.v
  rwa [words_set] at h2
theorem RmI.row {w : World} {V : Nat} {ws vs vs' : List (BitVec 32)} {L A : Value} {sc : List (BitVec 32)} {wr : World} (h : RmI w V ws vs L A sc wr) : RmI w V ws vs' L A sc (wr.setRow V (words vs')) :=
  h.kept ((Kept.refl [V] wr).setRow (by simp) _) (setRow_heap _ _ _ _ _ _ h.v)

theorem Rsh.rnds_zero (s : Sha.S) (ws : List (BitVec 32)) : Sha.rnds s ws 0 = s := rfl
theorem Rsh.of_list (ws : List (BitVec 32)) (hw : ws.length = 8) : (Sha.S.of ws).list = ws := by
  match ws, hw with
  | [a, b, c, d, e, f, g, h], _ => rfl
theorem Rsh.mix_eq (ws : List (BitVec 32)) (b : List (BitVec 8)) (sc : List (BitVec 32)) (h : Sha.sched b 64 = sc) : Sha.mix ws b = Sha.plus ws (Sha.rnds (Sha.S.of ws) sc 64).list := by rw [← h, Sha.mix]
theorem u32_not (x : BitVec 32) : bits .xor .u32 (if IntKind.u32.signed = true then -1 else IntKind.u32.max) (wv x) = wv (~~~x) := by
  rw [show (if IntKind.u32.signed = true then -1 else IntKind.u32.max) = wv (BitVec.allOnes 32) from rfl, u32_xor, BitVec.allOnes_xor]
attribute [local go_sem] u32_not
theorem Rsh.rnd_eq (a b c d e f g h k w x y : BitVec 32) (hx : x = h + (Sha.rr e 6 ^^^ Sha.rr e 11 ^^^ Sha.rr e 25) + ((e &&& f) ^^^ (~~~e &&& g)) + k + w) (hy : y = (Sha.rr a 2 ^^^ Sha.rr a 13 ^^^ Sha.rr a 22) + ((a &&& b) ^^^ (a &&& c) ^^^ (b &&& c))) :
    (Sha.rnd ⟨a, b, c, d, e, f, g, h⟩ k w) = ⟨x + y, a, b, c, d + x, e, f, g⟩ := by
  subst hx hy
  rw [← Sha.choice, ← Sha.most]
  rfl
theorem Sha.plus_comm (x y : List (BitVec 32)) : Sha.plus x y = Sha.plus y x := by
  unfold Sha.plus
  rw [List.zipWith_comm]
  congr 1
  funext a b
  exact BitVec.add_comm _ _

set_option maxRecDepth 100000 in
set_option maxHeartbeats 4000000 in
theorem rmix_any (ws : List (BitVec 32)) (b : List (BitVec 8)) (hw : ws.length = 8) (hb : b.length = 64) (v va : Value) (w : World) (hs : SlB w v b) (ha : SlW w va Sha.adds) :
    Calls Tryd.prog 67 #[.agg (words ws), v, va] w fun e w' => e = .returned (.agg (words (Sha.mix ws b))) ∧ Below w.heap.size w w' := by
  have HSC := Lib.hid (fun W (hB : Below w.heap.size w W) => schedule_any b hb v W (hs.below hB (Nat.le_refl _)))
  have hsl := Sha.sched_length b 64
  obtain ⟨b2, o2, k2, rfl, hk2, hb2⟩ := ha.open_ 64 rfl (by omega)
  have HA := Lib.hid ha
  have HIW := Lib.hid (fun (xs : List (BitVec 32)) (h : xs.length = 8) => (show (Tryd.prog.info? 26).map (·.size) = some (words xs).size by rw [words_size, h]; kernel_rfl))
  have HW := Lib.hid hw
  have HR := Lib.hid (fun n => Sha.rnds_succ (Sha.S.of ws) (Sha.sched b 64) n)
  have HMX := Lib.hid (Rsh.mix_eq ws b _ rfl)
  have H0 := Lib.hid (show (Sha.rnds (Sha.S.of ws) (Sha.sched b 64) 0).list = ws by rw [Rsh.rnds_zero, Rsh.of_list ws hw])
  have HML := Lib.hid (Sha.mix_length ws b hw)
  obtain ⟨sc, hsc⟩ : ∃ sc, Sha.sched b 64 = sc := ⟨_, rfl⟩
  rw [hsc] at HSC HR HMX H0 hsl
  have HSL := Lib.hid hsl
  obtain ⟨S0, hS0⟩ : ∃ S0, Sha.S.of ws = S0 := ⟨_, rfl⟩
  rw [hS0] at HR HMX H0
  obtain ⟨wb, hwb⟩ : ∃ wb, words ws = wb := ⟨_, rfl⟩
  rw [hwb]
  have HWB := Lib.hid hwb
  clear hs ha hw hsl hsc hS0 hwb
  go_enter Tryd.func67, Tryd.ntmps67
  go_upto_region 1 with fail
  obtain ⟨X, hX, hBX, hXs, hX0, hX1⟩ := alloc2 w (.cells wb 26) (.cells (words (List.replicate 8 0)) 26)
  rw [show (w.alloc (.cells wb 26)).alloc (.cells #[.int .u32 0, .int .u32 0, .int .u32 0, .int .u32 0, .int .u32 0, .int .u32 0, .int .u32 0, .int .u32 0] 26) = X from hX]
  have HX := Lib.hid (And.intro hBX (And.intro hXs (And.intro hX0 hX1)))
  clear hX hBX hXs hX0 hX1
  go_upto_region 2 with (go_at_call 92; refine (HSC.out _ HX.out.1).mono ?_; rintro e w1 ⟨v1, rfl, ho, hb⟩; have HO1 := Lib.hid ho; have HB1 := Lib.hid hb; clear ho hb)
  obtain ⟨g, cap, rfl, hgb, hgl, hgc, hsl⟩ := HO1.out.form 64 HSL.out (by omega)
  have hxs := HX.out.2.1
  have hs1 := HB1.out.size
  have r0 := (HB1.out.block w.heap.size (by omega)).trans HX.out.2.2.1
  have r1 := (HB1.out.block (w.heap.size + 1) (by omega)).trans HX.out.2.2.2
  have R0 := Lib.hid r0
  have HI8 := Lib.hid (show (Tryd.prog.info? 26).map (·.size) = some wb.size by rw [← HWB.out]; exact HIW.out _ HW.out)
  have HW8 := Lib.hid (show wb.size = 8 by rw [← HWB.out, words_size]; exact HW.out)
  have HW1 := Lib.hid (show wb.all (·.oneCell') = true by rw [← HWB.out]; exact words_one _)
  go_upto_region 3 with (first
    | (refine wpList_load_row rfl 26 (.tmp 3) rfl w.heap.size rfl _ _ _ _ R0.out Tryd.underlying26 rfl HI8.out ?_)
    | (refine wpList_store_row rfl 26 (.tmp 8) (.tmp 23) rfl _ _ rfl rfl _ _ (heap_alloc_new _ _) HI8.out (by rw [HW8.out]; rfl) HW1.out ?_; rw [World.setRow_alloc_new]))
  obtain ⟨Y, hY, hBY, hYs, hY0⟩ := alloc1 w1 (.cells wb 26)
  rw [hY]
  have hbw : Below w.heap.size w Y := (HX.out.1.trans (HB1.out.mono (by omega))).trans (hBY.mono (by omega))
  have hI : RmI w w1.heap.size ws (Sha.rnds S0 sc 0).list (.slice (some ⟨g, 0, none⟩) 64 cap) (.slice (some ⟨b2, o2, none⟩) 64 k2) sc Y := by
    rw [H0.out]
    refine ⟨⟨by omega, by omega⟩, ?_, (hBY.block _ (by omega)).trans r1, ?_, hsl.below hBY (Nat.le_refl _), HA.out.below hbw (Nat.le_refl _), ⟨fun k hk => ?_, fun k hk => ?_⟩, hbw⟩
    · rw [HWB.out]; exact (hBY.block _ (by omega)).trans r0
    · rw [HWB.out]; exact hY0
    · simp [Value.ownBlock] at hk; omega
    · simp [Value.ownBlock] at hk; omega
  have HI := Lib.hid hI
  clear hI hbw hY hBY hYs hY0 r0 r1 hsl HX HB1 HO1 hgl hgb hs1 hxs R0 HI8 HW8 HW1
  generalize w1.heap.size = V at *
  go_wp2
  go_loopw [9] (fun s9 wr => ∃ (i : Nat) (S : Sha.S), i ≤ 64 ∧ s9 = .int .i64 i ∧ Hid (Sha.rnds S0 sc i = S) ∧ Hid (RmI w V ws S.list (.slice (some ⟨g, 0, none⟩) 64 cap) (.slice (some ⟨b2, o2, none⟩) 64 k2) sc wr)) (fun s9 _ => 64 - (intOf s9).toNat)
  case atStart => exact ⟨0, _, by omega, rfl, rfl, HI⟩
  case round =>
    clear HI
    obtain ⟨i, ⟨a, b', c, d, e, f, g', h⟩, hi, rfl, HS, HI⟩ := hrel
    by_cases hlt : i < 64
    · have hc : ∀ p, p < 8 → wr.cell? ⟨V, p, none⟩ = some (.int .u32 (wv (Sha.S.list ⟨a, b', c, d, e, f, g', h⟩ |>.getD p 0))) := fun p hp => (cell_of_row wr V p _ _ _ HI.out.v).trans (words_get? _ p hp)
      have c0 : wr.cell? ⟨V, 0, none⟩ = some (.int .u32 (wv a)) := hc 0 (by omega)
      have c1 : wr.cell? ⟨V, 1, none⟩ = some (.int .u32 (wv b')) := hc 1 (by omega)
      have c2 : wr.cell? ⟨V, 2, none⟩ = some (.int .u32 (wv c)) := hc 2 (by omega)
      have c3 : wr.cell? ⟨V, 3, none⟩ = some (.int .u32 (wv d)) := hc 3 (by omega)
      have c4 : wr.cell? ⟨V, 4, none⟩ = some (.int .u32 (wv e)) := hc 4 (by omega)
      have c5 : wr.cell? ⟨V, 5, none⟩ = some (.int .u32 (wv f)) := hc 5 (by omega)
      have c6 : wr.cell? ⟨V, 6, none⟩ = some (.int .u32 (wv g')) := hc 6 (by omega)
      have c7 : wr.cell? ⟨V, 7, none⟩ = some (.int .u32 (wv h)) := hc 7 (by omega)
      clear hc
      go_upto_region 6 with fail
      go_cut [10, 11, 12, 13, 14, 15, 16, 17] (fun s10 s11 s12 s13 s14 s15 s16 s17 wx => s10 = .int .u32 (wv a) ∧ s11 = .int .u32 (wv b') ∧ s12 = .int .u32 (wv c) ∧ s13 = .int .u32 (wv d) ∧ s14 = .int .u32 (wv e) ∧ s15 = .int .u32 (wv f) ∧ s16 = .int .u32 (wv g') ∧ s17 = .int .u32 (wv h) ∧ ∃ m, wx = wr.drewN m)
      case first =>
        go_quiet (fail)
        go_wp2_with fail
        go_meet
        case rel => exact ⟨rfl, rfl, rfl, rfl, rfl, rfl, rfl, rfl, _, rfl⟩
      case rest =>
        obtain ⟨rfl, rfl, rfl, rfl, rfl, rfl, rfl, rfl, m, rfl⟩ := hcut
        have hI2 := HI.out.drewN m
        clear HI c0 c1 c2 c3 c4 c5 c6 c7
        generalize wr.drewN m = W at *
        have k0 := hI2.ad.cell i (by show i < 64; exact hlt)
        have l0 := hI2.sl.cell i (by rw [HSL.out]; exact hlt)
        unfold wordV at k0 l0
        rw [Nat.zero_add] at l0
        have hr := HR.out i
        rw [HS.out] at hr
        generalize Sha.adds.getD i 0 = kk at k0 hr
        generalize sc.getD i 0 = ww at l0 hr
        have hi64 : (i : Int) < 64 := by omega
        have HI2 := Lib.hid hI2
        have HRR := Lib.hid hr
        clear hI2 hr
        have HE := Lib.hid (fun W => And.intro (show Calls Tryd.prog 93 #[.int .u32 (wv e), .int .u64 6] W fun e' w' => e' = .returned (.int .u32 (wv (Sha.rr e 6))) ∧ w' = W from (rr_any e 6 (by omega) (by omega) W).mono fun _ _ h => ⟨h.1, h.2.symm⟩)
          (And.intro (show Calls Tryd.prog 93 #[.int .u32 (wv e), .int .u64 11] W fun e' w' => e' = .returned (.int .u32 (wv (Sha.rr e 11))) ∧ w' = W from (rr_any e 11 (by omega) (by omega) W).mono fun _ _ h => ⟨h.1, h.2.symm⟩)
          (show Calls Tryd.prog 93 #[.int .u32 (wv e), .int .u64 25] W fun e' w' => e' = .returned (.int .u32 (wv (Sha.rr e 25))) ∧ w' = W from (rr_any e 25 (by omega) (by omega) W).mono fun _ _ h => ⟨h.1, h.2.symm⟩)))
        have HAA := Lib.hid (fun W => And.intro (show Calls Tryd.prog 93 #[.int .u32 (wv a), .int .u64 2] W fun e' w' => e' = .returned (.int .u32 (wv (Sha.rr a 2))) ∧ W = w' from rr_any a 2 (by omega) (by omega) W)
          (And.intro (show Calls Tryd.prog 93 #[.int .u32 (wv a), .int .u64 13] W fun e' w' => e' = .returned (.int .u32 (wv (Sha.rr a 13))) ∧ W = w' from rr_any a 13 (by omega) (by omega) W)
          (show Calls Tryd.prog 93 #[.int .u32 (wv a), .int .u64 22] W fun e' w' => e' = .returned (.int .u32 (wv (Sha.rr a 22))) ∧ W = w' from rr_any a 22 (by omega) (by omega) W)))
        go_upto_region 7 with fail
        go_quiet ((first
          | (go_at_call 93; with_reducible exact Calls.quiet_of_same (HE.out _).1) | (go_at_call 93; with_reducible exact Calls.quiet_of_same (HE.out _).2.1) | (go_at_call 93; with_reducible exact Calls.quiet_of_same (HE.out _).2.2)))
        obtain ⟨xx, hxx⟩ : ∃ xx, h + (Sha.rr e 6 ^^^ Sha.rr e 11 ^^^ Sha.rr e 25) + ((e &&& f) ^^^ (~~~e &&& g')) + kk + ww = xx := ⟨_, rfl⟩
        rw [hxx]
        obtain ⟨yy, hyy⟩ : ∃ yy, (Sha.rr a 2 ^^^ Sha.rr a 13 ^^^ Sha.rr a 22) + ((a &&& b') ^^^ (a &&& c) ^^^ (b' &&& c)) = yy := ⟨_, rfl⟩
        have HN := Lib.hid (HRR.out.trans (Rsh.rnd_eq a b' c d e f g' h kk ww xx yy hxx.symm hyy.symm))
        have HYY := Lib.hid hyy
        have HI3 := Lib.hid (HI2.out.drewN nq)
        clear hxx hyy HI2
        generalize W.drewN nq = W2 at *
        go_upto_region 9 with (first
          | (go_at_call 93; (with_reducible refine Calls.mono (HAA.out _).1 ?_); rintro e' w' ⟨rfl, rfl⟩)
          | (go_at_call 93; (with_reducible refine Calls.mono (HAA.out _).2.1 ?_); rintro e' w' ⟨rfl, rfl⟩)
          | (go_at_call 93; (with_reducible refine Calls.mono (HAA.out _).2.2 ?_); rintro e' w' ⟨rfl, rfl⟩))
        rw [HYY.out]
        go_wp2_with (refine wpList_store_row rfl 26 (.tmp 8) (.tmp 105) rfl V (words [xx + yy, a, b', c, d + xx, e, f, g']) rfl rfl _ _ HI3.out.v (HIW.out _ rfl) (by rfl) (words_one _) ?_)
        exact ⟨⟨i + 1, ⟨xx + yy, a, b', c, d + xx, e, f, g'⟩, by omega, by go_num, HN, Lib.hid HI3.out.row⟩, by simp [intOf]; omega⟩
    · obtain rfl : i = 64 := by omega
      rw [show ((64 : Nat) : Int) = 64 from rfl]
      rw [← HS.out] at HI
      have HRL := Lib.hid (show (Sha.rnds S0 sc 64).list.length = 8 from rfl)
      rw [Sha.plus_comm] at HMX
      have HPZ := Lib.hid (Sha.plusN_zero (Sha.rnds S0 sc 64).list ws)
      have HPS := Lib.hid (fun j (h : j < 8) => Sha.plusN_succ (Sha.rnds S0 sc 64).list ws j h)
      have HPA := Lib.hid (Sha.plusN_all (Sha.rnds S0 sc 64).list ws (by rw [HW.out]; rfl))
      have HPG := Lib.hid (fun j (h : j < 8) => Sha.plusN_getD (Sha.rnds S0 sc 64).list ws j j h)
      have HPL := Lib.hid (fun j => Sha.plusN_length (Sha.rnds S0 sc 64).list ws j)
      obtain ⟨RL, hRL⟩ : ∃ RL, (Sha.rnds S0 sc 64).list = RL := ⟨_, rfl⟩
      rw [hRL] at HI HRL HMX HPZ HPS HPA HPG HPL
      clear HS hRL HR H0 HSC
      rw [← HPZ.out] at HI
      go_wp2
      go_loopw [20] (fun s20 wq => ∃ j : Nat, j ≤ 8 ∧ s20 = .int .i64 j ∧ Hid (RmI w V ws (Sha.plusN RL ws j) (.slice (some ⟨g, 0, none⟩) 64 cap) (.slice (some ⟨b2, o2, none⟩) 64 k2) sc wq)) (fun s20 _ => 8 - (intOf s20).toNat)
      case atStart => exact ⟨0, by omega, rfl, HI⟩
      case round =>
        clear HI
        obtain ⟨j, hj, rfl, HI⟩ := hrel
        by_cases hlt8 : j < 8
        · have c0 := (cell_of_row wr V j _ _ _ HI.out.v).trans (words_get? _ j (by rw [HPL.out, HRL.out]; exact hlt8))
          rw [HPG.out j hlt8, if_neg (by omega)] at c0
          have c1 := (cell_of_row wr w.heap.size j _ _ _ HI.out.w_).trans (words_get? _ j (by rw [HW.out]; exact hlt8))
          have f0 := frozen_of_row wr V j _ _ HI.out.v
          have hn := HI.out.set j (RL.getD j 0 + ws.getD j 0)
          rw [← HPS.out j hlt8] at hn
          generalize RL.getD j 0 = x at c0 hn
          generalize ws.getD j 0 = y at c1 hn
          have HN := Lib.hid hn
          have hj8 : (j : Int) < 8 := by omega
          have hVw : ¬ V = w.heap.size := by have := HI.out.lt.1; omega
          clear hn
          go_upto_region 13 with fail
          go_still_tail 9, (by kernel_rfl)
          go_wp2
          exact ⟨⟨j + 1, by omega, by go_num, HN.out.drew⟩, by simp [intOf]; omega⟩
        · obtain rfl : j = 8 := by omega
          rw [HRL.out] at HPA
          rw [HPA.out, ← HMX.out] at HI
          have hlt' := HI.out.lt
          have HIV := Lib.hid (HIW.out _ HML.out)
          go_wp2_with (first
            | (refine wpList_load_row rfl 26 (.tmp 8) rfl V rfl _ _ _ _ HI.out.v Tryd.underlying26 rfl HIV.out ?_)
            | (refine wpList_store_row rfl 26 (.tmp 6) (.tmp 119) rfl (w.heap.size + 1) _ rfl rfl _ _ HI.out.out HIV.out (by rw [words_size, words_size, HML.out]; rfl) (words_one _) ?_))
          exact bodyPost_ret (results_cell_row Tryd.results67 _ _ (w.heap.size + 1) _ _ _ _ rfl (setRow_heap _ _ _ _ _ _ HI.out.out) Tryd.underlying26 rfl HIV.out) rfl ⟨rfl, HI.out.below.trans (((Kept.refl [w.heap.size + 1] wr).setRow (by simp) _).toBelow (B := w.heap.size) (by simp) HI.out.below.size)⟩
end Go.Proofs.YtnoilogepkelaaaDoor
namespace Go.Proofs.YtnoilogepkelaaaDoor
set_option linter.unusedVariables false
set_option linter.unusedSimpArgs false
open Go Go.RowKit

set_option maxRecDepth 100000 in
set_option maxHeartbeats 1000000 in
theorem rMix_any (ws : List (BitVec 32)) (b : List (BitVec 8)) (hw : ws.length = 8) (hb : b.length = 64) (v : Value) (w : World) (hs : SlB w v b) :
    Calls Tryd.prog 31 #[.agg (words ws), v] w fun e w' => e = .returned (.agg (words (Sha.mix ws b))) ∧ Below w.heap.size w w' := by
  have HM := Lib.hid (fun va W (ha : SlW W va Sha.adds) (hB : Below w.heap.size w W) => rmix_any ws b hw hb v va W (hs.below hB (Nat.le_refl _)) ha)
  have HA := Lib.hid (fun W => radds_any W)
  have HIW := Lib.hid (fun (xs : List (BitVec 32)) (h : xs.length = 8) => (show (Tryd.prog.info? 26).map (·.size) = some (words xs).size by rw [words_size, h]; kernel_rfl))
  have HW := Lib.hid hw
  have HML := Lib.hid (Sha.mix_length ws b hw)
  obtain ⟨M, hM⟩ : ∃ M, Sha.mix ws b = M := ⟨_, rfl⟩
  rw [hM] at HM HML ⊢
  obtain ⟨wb, hwb⟩ : ∃ wb, words ws = wb := ⟨_, rfl⟩
  rw [hwb] at HM ⊢
  have HI8 := Lib.hid (show (Tryd.prog.info? 26).map (·.size) = some wb.size by rw [← hwb]; exact HIW.out _ hw)
  clear hs hw hM hwb
  go_enter Tryd.func31, Tryd.ntmps31
  go_upto_region 1 with fail
  obtain ⟨X, hX, hBX, hXs, hX0, hX1⟩ := alloc2 w (.cells wb 26) (.cells (words (List.replicate 8 0)) 26)
  rw [show (w.alloc (.cells wb 26)).alloc (.cells #[.int .u32 0, .int .u32 0, .int .u32 0, .int .u32 0, .int .u32 0, .int .u32 0, .int .u32 0, .int .u32 0] 26) = X from hX]
  have HX := Lib.hid (And.intro hBX (And.intro hXs (And.intro hX0 hX1)))
  have hzx : w.heap.size + 1 < X.heap.size := by omega
  clear hX hBX hXs hX0 hX1
  have HRG := Lib.hid (fun W (hW : Kept [w.heap.size + 1] X W) => rng_of_row W w.heap.size _ _ _ ((hW.block w.heap.size (by omega) (by simp)).trans HX.out.2.2.1))
  have HIL := Lib.hid (show (Tryd.prog.info? 26).map (·.size) = some wb.toList.length by rw [Array.length_toList]; exact HI8.out)
  -- REG M BEGIN
  refine wp_region_held_drew (S := fun W => Kept [w.heap.size + 1] X W) (by kernel_rfl) ((Kept.refl _ X).drew) (fun hHeld => ?_)
  refine wpAnyH_take (i := 0) rfl (by kernel_rfl) (by kernel_rfl) (by kernel_rfl) (fun _ _ _ h => h) (yieldsIf_load_mid (by rfl) 26 (.tmp 2) rfl _ _ rfl (wb.toList) _ (fun _ h => HRG.out _ h) Tryd.underlying26 rfl (HIL.out)) (by assumption) ?_
  try simp only [List.getElem_toArray, List.getElem_cons_zero, List.getElem_cons_succ, Act.put, List.setIfInBounds_toArray, List.set_cons_zero, List.set_cons_succ]
  refine wpAnyH_take (i := 1) (v := ?v1) rfl (by kernel_rfl) (by kernel_rfl) (by kernel_rfl) (fun _ _ _ h => h) (Or.inl ⟨by rfl, ?y1⟩) (by assumption) ?r1
  case y1 =>
    intro w' hSw
    go_split_ands
    go_simp
    try with_reducible rfl
  try simp only [List.getElem_toArray, List.getElem_cons_zero, List.getElem_cons_succ, Act.put, List.setIfInBounds_toArray, List.set_cons_zero, List.set_cons_succ]
  refine wpAnyH_ready (rs := [2]) (by kernel_rfl) (by simp) ?_
  refine AllReadyH.cons (i := 2) rfl (fun K hK => ?_) AllReadyH.nil
  go_simp
  go_at_call 68
  refine (HA.out _).mono ?_
  rintro e w1 ⟨v1, rfl, ho, hb⟩
  have HO1 := Lib.hid ho.sl
  have HB1 := Lib.hid (show Below X.heap.size X w1 from (Below.refl _ X).drew.trans hb)
  clear ho hb
  refine hK.out _ _ (Kept.ofBelow HB1.out (Nat.le_refl _)) (fun hHeld' => ?_)
  clear hHeld hK K
  have hHeld := hHeld'
  clear hHeld'
  try simp only [List.getElem_toArray, List.getElem_cons_zero, List.getElem_cons_succ, Act.put, List.setIfInBounds_toArray, List.set_cons_zero, List.set_cons_succ]
  refine wpAnyH_ready (rs := [3]) (by kernel_rfl) (by simp) ?_
  refine AllReadyH.cons (i := 3) rfl (fun K hK => ?_) AllReadyH.nil
  go_simp
  go_at_call 67
  refine (HM.out _ _ HO1.out (HX.out.1.trans (HB1.out.mono HX.out.1.size))).mono ?_
  rintro e w2 ⟨rfl, hb⟩
  have HB2 := Lib.hid (HB1.out.trans (hb.mono HB1.out.size))
  have HO2 := Lib.hid ((HB2.out.block (w.heap.size + 1) hzx).trans HX.out.2.2.2)
  clear hb
  refine hK.out _ _ (Kept.ofBelow HB2.out (Nat.le_refl _)) (fun hHeld' => ?_)
  clear hHeld hK K
  have hHeld := hHeld'
  clear hHeld'
  try simp only [List.getElem_toArray, List.getElem_cons_zero, List.getElem_cons_succ, Act.put, List.setIfInBounds_toArray, List.set_cons_zero, List.set_cons_succ]
  refine wpAnyH_ready (rs := [4]) (by kernel_rfl) (by simp) ?_
  refine AllReadyH.cons (i := 4) rfl (fun K hK => ?_) AllReadyH.nil
  refine any_of_list (by rfl) (fun Q' hQ' => ?_)
  try simp only [List.getElem_toArray, List.getElem_cons_zero, List.getElem_cons_succ]
  refine wpList_store_row rfl 26 (.tmp 4) (.tmp 8) rfl (w.heap.size + 1) _ rfl rfl _ _ HO2.out (HIW.out _ HML.out) (by rw [words_size, words_size, HML.out]; rfl) (words_one _) ?_
  refine hQ' _ _ (hK.out _ _ ((Kept.ofBelow HB2.out (Nat.le_refl _)).setRow (by simp) _) (fun hHeld' => ?_))
  clear hHeld hK K hQ' Q'
  have hHeld := hHeld'
  clear hHeld'
  try simp only [List.getElem_toArray, List.getElem_cons_zero, List.getElem_cons_succ, Act.put, List.setIfInBounds_toArray, List.set_cons_zero, List.set_cons_succ]
  refine wpAnyH_done (by kernel_rfl) ?_ _
  -- REG M END
  go_wp2
  have hb2 := HX.out.1.trans (HB2.out.mono HX.out.1.size)
  exact bodyPost_ret (results_cell_row Tryd.results31 _ _ (w.heap.size + 1) _ _ _ _ rfl (setRow_heap _ _ _ _ _ _ HO2.out) Tryd.underlying26 rfl (HIW.out _ HML.out)) rfl ⟨rfl, hb2.trans (((Kept.refl [w.heap.size + 1] w2).setRow (by simp) _).toBelow (B := w.heap.size) (by simp) hb2.size)⟩

theorem Rsh.list8 (xs : List (BitVec 32)) (h : xs.length = 8) : ∃ a b c d e f g i, xs = [a, b, c, d, e, f, g, i] := by
  match xs, h with
  | [a, b, c, d, e, f, g, i], _ => exact ⟨a, b, c, d, e, f, g, i, rfl⟩
set_option maxRecDepth 100000 in
set_option maxHeartbeats 4000000 in
theorem rfold_any (ws : List (BitVec 32)) (b : List (BitVec 8)) (hw : ws.length = 8) (hm : b.length % 64 = 0) (hl : b.length ≤ 100000000) (v : Value) (w : World) (hs : SlB w v b) :
    Calls Tryd.prog 70 #[.agg (words ws), v] w fun e w' => e = .returned (.agg (words (Sha.fold ws b))) ∧ Below w.heap.size w w' := by
  obtain ⟨a, cap, rfl⟩ := hs.len
  have hcap := hs.bounds.2
  have HS := Lib.hid hs
  have HA := Lib.hid (fun W => radds_any W)
  have HM := Lib.hid (fun xs blk (h1 : xs.length = 8) (h2 : blk.length = 64) v va W (h3 : SlB W v blk) (h4 : SlW W va Sha.adds) => rmix_any xs blk h1 h2 v va W h3 h4)
  have HIW := Lib.hid (fun (xs : List (BitVec 32)) (h : xs.length = 8) => (show (Tryd.prog.info? 26).map (·.size) = some (words xs).size by rw [words_size, h]; kernel_rfl))
  have HFL := Lib.hid (fun k => Sha.foldN_length ws b k hw)
  have HF0 := Lib.hid (show Sha.foldN ws b 0 = ws from rfl)
  have HFS := Lib.hid (fun k => (show Sha.foldN ws b (k + 1) = Sha.mix (Sha.foldN ws b k) (Sha.block b k) from rfl))
  have HFF := Lib.hid (show Sha.fold ws b = Sha.foldN ws b (b.length / 64) from rfl)
  have HBK := Lib.hid (fun k h => Sha.block_length b k h)
  obtain ⟨N, hN⟩ : ∃ N, b.length = N := ⟨_, rfl⟩
  rw [hN] at HS HFF HBK hm hl hcap ⊢
  obtain ⟨R, hR⟩ : ∃ R, Sha.fold ws b = R := ⟨_, rfl⟩
  rw [hR] at HFF ⊢
  obtain ⟨wb, hwb⟩ : ∃ wb, words ws = wb := ⟨_, rfl⟩
  rw [hwb]
  have HWB := Lib.hid hwb
  clear hs hw hN hR hwb
  go_enter Tryd.func70, Tryd.ntmps70
  go_upto_region 1 with fail
  obtain ⟨X, hX, hBX, hXs, hX0, hX1⟩ := alloc2 w (.cells wb 26) (.cells (words (List.replicate 8 0)) 26)
  rw [show (w.alloc (.cells wb 26)).alloc (.cells #[.int .u32 0, .int .u32 0, .int .u32 0, .int .u32 0, .int .u32 0, .int .u32 0, .int .u32 0, .int .u32 0] 26) = X from hX]
  have HX := Lib.hid (And.intro hBX (And.intro hXs (And.intro hX0 hX1)))
  clear hX hBX hXs hX0 hX1
  go_upto_region 2 with (go_at_call 68; refine (HA.out _).mono ?_; rintro e w1 ⟨v1, rfl, ho, hb⟩; have HO1 := Lib.hid ho; have HB1 := Lib.hid hb; clear ho hb)
  obtain ⟨g, gc, rfl, hgb, hgl, hgc, hsl⟩ := HO1.out.form 64 rfl (by omega)
  have hxs := HX.out.2.1
  have HI := Lib.hid (show w1.heap[w.heap.size]? = some (.cells (words (Sha.foldN ws b 0)) 26 (0, 0)) ∧ w1.heap[w.heap.size + 1]? = some (.cells (words (List.replicate 8 0)) 26 (0, 0)) ∧ SlW w1 (.slice (some ⟨g, 0, none⟩) 64 gc) Sha.adds ∧ Below w.heap.size w w1 from
    ⟨by rw [HF0.out, HWB.out]; exact (HB1.out.block w.heap.size (by omega)).trans HX.out.2.2.1, (HB1.out.block (w.heap.size + 1) (by omega)).trans HX.out.2.2.2, hsl, HX.out.1.trans (HB1.out.mono (by omega))⟩)
  have hgw : w.heap.size + 1 < g := by omega
  clear hsl HO1 HB1 HX hgb hgl hxs
  go_wp2
  go_loopw [6] (fun s6 wr => ∃ k : Nat, 64 * k ≤ N ∧ s6 = .int .i64 (64 * (k : Int)) ∧ Hid (wr.heap[w.heap.size]? = some (.cells (words (Sha.foldN ws b k)) 26 (0, 0)) ∧ wr.heap[w.heap.size + 1]? = some (.cells (words (List.replicate 8 0)) 26 (0, 0)) ∧ SlW wr (.slice (some ⟨g, 0, none⟩) 64 gc) Sha.adds ∧ Below w.heap.size w wr)) (fun s6 _ => N + 64 - (intOf s6).toNat)
  case atStart => exact ⟨0, by omega, rfl, HI⟩
  case round =>
    clear HI
    obtain ⟨k, hk, rfl, HI⟩ := hrel
    by_cases hlt : 64 * k + 64 ≤ N
    · have hc1 : 64 * (k : Int) + 64 ≤ (N : Int) := by omega
      obtain ⟨b1, o1, k1, e1, _, _⟩ := (HS.out.below HI.out.2.2.2 (Nat.le_refl _)).open_ N (by have := HS.out.bounds.1; omega) (by omega)
      simp only [Value.slice.injEq] at e1
      obtain ⟨rfl, _, rfl⟩ := e1
      have hsb := ((HS.out.below HI.out.2.2.2 (Nat.le_refl _)).drop (64 * k) (by omega)).take 64 (by omega)
      rw [show (b.drop (64 * k)).take 64 = Sha.block b k from rfl] at hsb
      have HSB := Lib.hid hsb
      have hck : ¬ cap = 64 * k := by omega
      have hi0 : (0 : Int) ≤ 64 * (k : Int) := by omega
      have hi1 : 64 * (k : Int) ≤ (N : Int) := by omega
      have hi2 : (64 * (k : Int)).toNat = 64 * k := by omega
      have hi3 : (64 * (k : Int) + 64).toNat - 64 * k = 64 := by omega
      have hi4 : 64 * (k : Int) ≤ 64 * (k : Int) + 64 := by omega
      have hi5 : 64 * (k : Int) + 64 ≤ (cap : Int) := by omega
      have hi6 : IntKind.i64.wrap (64 * (k : Int) + 64) = 64 * (k : Int) + 64 := by rw [IntKind.wrap_i64]; omega
      clear hsb
      obtain ⟨x0, x1, x2, x3, x4, x5, x6, x7, hx8⟩ := Rsh.list8 _ (HFL.out k)
      have hI1 := HI.out.1
      rw [hx8] at hI1
      have c0 : wr.cell? ⟨w.heap.size, 0, none⟩ = some (.int .u32 (wv x0)) := cell_of_row wr w.heap.size 0 _ _ _ hI1
      have c1 : wr.cell? ⟨w.heap.size, 1, none⟩ = some (.int .u32 (wv x1)) := cell_of_row wr w.heap.size 1 _ _ _ hI1
      have c2 : wr.cell? ⟨w.heap.size, 2, none⟩ = some (.int .u32 (wv x2)) := cell_of_row wr w.heap.size 2 _ _ _ hI1
      have c3 : wr.cell? ⟨w.heap.size, 3, none⟩ = some (.int .u32 (wv x3)) := cell_of_row wr w.heap.size 3 _ _ _ hI1
      have c4 : wr.cell? ⟨w.heap.size, 4, none⟩ = some (.int .u32 (wv x4)) := cell_of_row wr w.heap.size 4 _ _ _ hI1
      have c5 : wr.cell? ⟨w.heap.size, 5, none⟩ = some (.int .u32 (wv x5)) := cell_of_row wr w.heap.size 5 _ _ _ hI1
      have c6 : wr.cell? ⟨w.heap.size, 6, none⟩ = some (.int .u32 (wv x6)) := cell_of_row wr w.heap.size 6 _ _ _ hI1
      have c7 : wr.cell? ⟨w.heap.size, 7, none⟩ = some (.int .u32 (wv x7)) := cell_of_row wr w.heap.size 7 _ _ _ hI1
      have hm8 := HM.out _ _ (HFL.out k) (HBK.out k hlt) _ _ wr.drew HSB.out.drew HI.out.2.2.1
      rw [← HFS.out, hx8, show words [x0, x1, x2, x3, x4, x5, x6, x7] = #[.int .u32 (wv x0), .int .u32 (wv x1), .int .u32 (wv x2), .int .u32 (wv x3), .int .u32 (wv x4), .int .u32 (wv x5), .int .u32 (wv x6), .int .u32 (wv x7)] from rfl] at hm8
      have HM8 := Lib.hid hm8
      clear hI1 hx8 hm8
      go_upto_region 5 with fail
      go_still_tail 7, (by kernel_rfl)
      go_wp2_with (first
        | (go_at_call 67; refine HM8.out.mono ?_; rintro e w2 ⟨rfl, hb⟩; have HB2 := Lib.hid (show Below wr.heap.size wr w2 from (Below.refl _ wr).drew.trans hb); have HW2 := Lib.hid (((show Below wr.heap.size wr w2 from (Below.refl _ wr).drew.trans hb).block w.heap.size (Array.getElem?_eq_some_iff.1 HI.out.1).1).trans HI.out.1); clear hb)
        | (refine wpList_store_row rfl 26 (.tmp 2) (.tmp 22) rfl w.heap.size _ rfl rfl _ _ HW2.out (HIW.out _ (HFL.out (k + 1))) (by rw [words_size, words_size, HFL.out, HFL.out]) (words_one _) ?_))
      clear c0 c1 c2 c3 c4 c5 c6 c7
      have hz2 := (Array.getElem?_eq_some_iff.1 HI.out.2.1).1
      have hK := (Kept.refl [w.heap.size] w2).setRow (b := w.heap.size) (by simp) (words (Sha.foldN ws b (k + 1)))
      have h2 := HB2.out.size
      have HN := Lib.hid (show (w2.setRow w.heap.size (words (Sha.foldN ws b (k + 1)))).heap[w.heap.size]? = some (.cells (words (Sha.foldN ws b (k + 1))) 26 (0, 0)) ∧ (w2.setRow w.heap.size (words (Sha.foldN ws b (k + 1)))).heap[w.heap.size + 1]? = some (.cells (words (List.replicate 8 0)) 26 (0, 0)) ∧ SlW (w2.setRow w.heap.size (words (Sha.foldN ws b (k + 1)))) (.slice (some ⟨g, 0, none⟩) 64 gc) Sha.adds ∧ Below w.heap.size w (w2.setRow w.heap.size (words (Sha.foldN ws b (k + 1)))) from
        ⟨setRow_heap _ _ _ _ _ _ HW2.out, (hK.block _ (by omega) (by simp)).trans ((HB2.out.block _ hz2).trans HI.out.2.1), (HI.out.2.2.1.below HB2.out (Nat.le_refl _)).keptR hK (by intro k hk; simp [Value.ownBlock] at hk; omega), (HI.out.2.2.2.trans (HB2.out.mono HI.out.2.2.2.size)).trans (hK.toBelow (by simp) (by have := HI.out.2.2.2.size; omega))⟩)
      clear hK h2 hz2
      exact ⟨⟨k + 1, by omega, by go_num, HN⟩, by simp [intOf]; omega⟩
    · have hke : k = N / 64 := by omega
      rw [hke, ← HFF.out] at HI
      have hc1 : ¬ 64 * (k : Int) + 64 ≤ (N : Int) := by omega
      have HRL := Lib.hid (show R.length = 8 by rw [HFF.out]; exact HFL.out _)
      clear hke
      go_wp2_with (first
        | (refine wpList_load_row rfl 26 (.tmp 2) rfl w.heap.size rfl _ _ _ _ HI.out.1 Tryd.underlying26 rfl (HIW.out _ HRL.out) ?_)
        | (refine wpList_store_row rfl 26 (.tmp 4) (.tmp 23) rfl (w.heap.size + 1) _ rfl rfl _ _ HI.out.2.1 (HIW.out _ HRL.out) (by rw [words_size, words_size, HRL.out]; rfl) (words_one _) ?_))
      exact bodyPost_ret (results_cell_row Tryd.results70 _ _ (w.heap.size + 1) _ _ _ _ rfl (setRow_heap _ _ _ _ _ _ HI.out.2.1) Tryd.underlying26 rfl (HIW.out _ HRL.out)) rfl ⟨rfl, HI.out.2.2.2.trans (((Kept.refl [w.heap.size + 1] wr).setRow (by simp) _).toBelow (B := w.heap.size) (by simp) HI.out.2.2.2.size)⟩
end Go.Proofs.YtnoilogepkelaaaDoor
namespace Go.Proofs.YtnoilogepkelaaaDoor
set_option linter.unusedVariables false
set_option linter.unusedSimpArgs false
open Go Go.RowKit

theorem rbehind_no (n : Int) (h : n < 0 ∨ 1152921504606846976 < n) (w : World) : Calls Tryd.prog 32 #[.int .i64 n] w fun e w' => e = .returned (.slice none 0 0) ∧ w = w' := by
  rcases h with h | h
  · go_enter Tryd.func32, Tryd.ntmps32
    go_wp2
    go_ret
    exact ⟨rfl, rfl⟩
  · have h' : ¬ n < 0 := by omega
    go_enter Tryd.func32, Tryd.ntmps32
    go_wp2
    go_ret
    exact ⟨rfl, rfl⟩
theorem bv_ofNat' (k : Nat) : bv (BitVec.ofNat 8 k) = (k : Int) % 256 := by
  unfold bv
  rw [BitVec.toNat_ofNat]
  omega
theorem one_byte {E : TypeId} (w : World) (n : Int) (x : BitVec 8) (h : n = bv x) : SlB (w.alloc (.cells #[.int .u8 n] E)) (.slice (some ⟨w.heap.size, 0, none⟩) 1 1) [x] := by
  subst h
  exact SlB.block (heapA_new w _ _ rfl) 0 1 [x] (by simp) (by decide) (fun j hj => by
    have : j = 0 := by simp at hj; omega
    subst this
    rfl)
/-- 128, noughts, and i of the eight. -/
def Rsh.bhz (k : Nat) : List (BitVec 8) := 128 :: List.replicate k 0
def Rsh.bhe (n i : Nat) : List (BitVec 8) := (List.range i).map fun i => BitVec.ofNat 8 (8 * n / 2 ^ (56 - 8 * i))
theorem Rsh.bhz_succ (k : Nat) : Rsh.bhz (k + 1) = Rsh.bhz k ++ [0] := by simp [Rsh.bhz, List.replicate_succ']
theorem Rsh.bhz_length (k : Nat) : (Rsh.bhz k).length = k + 1 := by simp [Rsh.bhz]
theorem Rsh.bhe_succ (n i : Nat) : Rsh.bhe n (i + 1) = Rsh.bhe n i ++ [BitVec.ofNat 8 (8 * n / 2 ^ (56 - 8 * i))] := by simp [Rsh.bhe, List.range_succ]
theorem Rsh.bhe_length (n i : Nat) : (Rsh.bhe n i).length = i := by simp [Rsh.bhe]
theorem Rsh.bh_end (n : Nat) : Rsh.bhz (Sha.many n - 1) ++ Rsh.bhe n 8 = Sha.behind n := by
  unfold Rsh.bhz Rsh.bhe Sha.behind Sha.be8
  rfl

set_option maxRecDepth 100000 in
set_option maxHeartbeats 4000000 in
theorem rbehind_any (n : Nat) (hn : n ≤ 1152921504606846976) (w : World) : Calls Tryd.prog 32 #[.int .i64 (n : Int)] w (RetB w (Sha.behind n)) := by
  have hp := Sha.many_pos n
  have hmn : Sha.many n = 64 - (n + 8) % 64 := rfl
  have HE := Lib.hid (Rsh.bh_end n)
  obtain ⟨M, hM⟩ : ∃ M, Sha.many n = M := ⟨_, rfl⟩
  rw [hM] at hp hmn HE
  have HM := Lib.hid hmn
  have hn0 : ¬ (n : Int) < 0 := by omega
  have hnm : ¬ (1152921504606846976 : Int) < (n : Int) := by omega
  clear hmn hM
  go_enter Tryd.func32, Tryd.ntmps32
  go_upto_region 4 with fail
  have HO0 := Lib.hid (show OwnB 5 w.heap.size (w.alloc (.cells #[.int .u8 128] 5)) (.slice (some ⟨w.heap.size, 0, none⟩) 1 1) (Rsh.bhz 0) from OwnB.made w [128] (Nat.le_refl _) (by decide))
  have HB0 := Lib.hid ((Below.refl w.heap.size w).alloc (Nat.le_refl _) (.cells #[.int .u8 128] 5))
  generalize w.alloc (.cells #[.int .u8 128] 5) = w0 at *
  go_loopw [3] (fun s3 wr => ∃ k : Nat, k + 1 ≤ M ∧ Hid (OwnB 5 w.heap.size wr s3 (Rsh.bhz k)) ∧ Hid (Below w.heap.size w wr)) (fun s3 _ => 100 - (match s3 with | .slice _ l _ => l | _ => 0))
  case atStart => exact ⟨0, hp.1, HO0, HB0⟩
  case round =>
    clear HO0 HB0
    obtain ⟨k, hk, HO, HB⟩ := hrel
    obtain ⟨a, cap, rfl⟩ := HO.out.sl.len
    rw [Rsh.bhz_length] at HO ⊢
    have hsz := HB.out.size
    obtain ⟨q, hq⟩ : ∃ q, k + 1 = q := ⟨_, rfl⟩
    rw [hq] at HO hk ⊢
    have HQ := Lib.hid hq
    by_cases hlt : q < M
    · have hc : ¬ ((n : Int) + (q : Int) + 8) % 64 = 0 := by have := HM.out; have := HQ.out; omega
      have hc2 : (((n : Int) + (q : Int) + 8) % 64 != 0) = true := by rw [bne_iff_ne]; exact hc
      clear hq
      go_wp2_with (at_builtin; refine wpList_append_b rfl (.tmp 21) (.tmp 22) 22 5 rfl Tryd.underlying22 info_u8 w.heap.size _ _ (HO.out.alloc _) rfl _ [0] (one_byte _ _ 0 rfl) rfl (by have := HQ.out; rw [Rsh.bhz_length]; simp; omega) (by simp; omega) ?_; intro v3 w3 ho hg hn'; rw [← Rsh.bhz_succ] at ho; have HO3 := Lib.hid ho; have HB3 := Lib.hid ((HB.out.alloc hsz _).grown hg (by simp; omega) (fun k e => (World.ownsRow.lt HO.out k e).1)); clear ho hg hn')
      obtain ⟨a3, cap3, rfl⟩ := HO3.out.sl.len
      rw [Rsh.bhz_length] at HO3 ⊢
      refine ⟨⟨k + 1, by have := HQ.out; omega, HO3, HB3⟩, ?_⟩
      have h1 := HQ.out
      simp
      omega
    · obtain rfl : q = M := by omega
      have hc : ((n : Int) + (q : Int) + 8) % 64 = 0 := by have := HM.out; have := HQ.out; omega
      have HKM := Lib.hid (show k = q - 1 by omega)
      obtain ⟨t, ht⟩ : ∃ t, 8 * n = t := ⟨_, rfl⟩
      have e1 : (8 : Int) * (n : Int) = (t : Int) := by omega
      have w1 : IntKind.u64.wrap ((8 : Int) * (n : Int)) = (t : Int) := by rw [e1, wrap_u64_mod]; omega
      have v1 : (8 : Int) * (n : Int) % 18446744073709551616 = (t : Int) := by rw [e1]; omega
      have w0 : IntKind.u64.wrap (n : Int) = (n : Int) := by rw [wrap_u64_mod]; omega
      have HT := Lib.hid ht
      clear hq ht
      rw [HKM.out] at HO
      have HO' := Lib.hid (show OwnB 5 w.heap.size wr (.slice a q cap) (Rsh.bhz (q - 1) ++ Rsh.bhe n 0) by rw [show Rsh.bhe n 0 = [] from rfl, List.append_nil]; exact HO.out)
      go_wp2
      clear e1 w1 v1 w0 hc
      go_loopw [3, 5] (fun s3 s5 wq => ∃ i : Nat, i ≤ 8 ∧ s5 = .int .i64 i ∧ Hid (OwnB 5 w.heap.size wq s3 (Rsh.bhz (q - 1) ++ Rsh.bhe n i)) ∧ Hid (Below w.heap.size w wq)) (fun _ s5 _ => 8 - (intOf s5).toNat)
      case atStart => exact ⟨0, by omega, rfl, HO', HB⟩
      case round =>
        clear HO HO' HB
        obtain ⟨i, hi, rfl, HO, HB⟩ := hrel
        have hsz := HB.out.size
        by_cases hlt8 : i < 8
        · obtain ⟨sh, hsh⟩ : ∃ sh, 56 - 8 * i = sh := ⟨_, rfl⟩
          have e2 : (56 : Int) - 8 * (i : Int) = (sh : Int) := by omega
          have hshl : sh ≤ 56 := by omega
          have hsu := Rsh.bhe_succ n i
          rw [hsh, HT.out] at hsu
          have hval : (t : Int) / 2 ^ sh % 256 = bv (BitVec.ofNat 8 (t / 2 ^ sh)) := by
            rw [bv_ofNat']
            push_cast
            rfl
          have HSU := Lib.hid hsu
          have hw2 : IntKind.u64.wrap (sh : Int) = (sh : Int) := by rw [wrap_u64_mod]; omega
          clear hsh hsu
          go_wp2_with (at_builtin; refine wpList_append_b rfl (.tmp 35) (.tmp 40) 22 5 rfl Tryd.underlying22 info_u8 w.heap.size _ _ (HO.out.alloc _) rfl _ [BitVec.ofNat 8 (t / 2 ^ sh)] (one_byte _ _ _ rfl) rfl (by rw [List.length_append, Rsh.bhz_length, Rsh.bhe_length]; simp; omega) (by simp; omega) ?_; intro v3 w3 ho hg hn'; rw [List.append_assoc, ← HSU.out] at ho; have HO3 := Lib.hid ho; have HB3 := Lib.hid ((HB.out.alloc hsz _).grown hg (by simp; omega) (fun k e => (World.ownsRow.lt HO.out k e).1)); clear ho hg hn')
          exact ⟨⟨i + 1, by omega, by go_num, HO3, HB3⟩, by simp [intOf]; omega⟩
        · obtain rfl : i = 8 := by omega
          rw [HE.out] at HO
          go_wp2
          go_ret
          exact ⟨_, rfl, HO.out, HB.out⟩

set_option maxRecDepth 100000 in
set_option maxHeartbeats 1000000 in
theorem rsum_any (b : List (BitVec 8)) (v : Value) (w : World) (hs : SlB w v b) (hl : b.length ≤ 50000000) :
    Calls Tryd.prog 33 #[v] w fun e w' => e = .returned (.agg (bytes (Sha.sum b))) ∧ Below w.heap.size w w' := by
  obtain ⟨a, cap, rfl⟩ := hs.len
  have hbl := Sha.behind_length b.length
  have hmp := Sha.many_pos b.length
  have HBH := Lib.hid (fun W => rbehind_any b.length (by omega) W)
  have HST := Lib.hid (fun W => rstart_any W)
  have HFO := Lib.hid (fun v W (h : SlB W v (b ++ Sha.behind b.length)) => rfold_any Sha.starts (b ++ Sha.behind b.length) rfl (by rw [List.length_append]; exact Sha.behind_whole _) (by rw [List.length_append]; omega) v W h)
  have HTO := Lib.hid (fun W => rtold_any (Sha.fold Sha.starts (b ++ Sha.behind b.length)) (Sha.foldN_length _ _ _ rfl) W)
  rw [show Sha.told (Sha.fold Sha.starts (b ++ Sha.behind b.length)) = Sha.sum b from rfl] at HTO
  have HIH := Lib.hid (show (Tryd.prog.info? 32).map (·.size) = some (bytes (Sha.sum b)).size by rw [bytes_size, Sha.sum_length]; kernel_rfl)
  have HSL := Lib.hid (Sha.sum_length b)
  have HS := Lib.hid hs
  have HBL := Lib.hid (show (Sha.behind b.length).length ≤ 72 by omega)
  have HN := Lib.hid hl
  obtain ⟨R, hR⟩ : ∃ R, Sha.sum b = R := ⟨_, rfl⟩
  rw [hR] at HTO HIH HSL ⊢
  clear hs hl hbl hmp hR
  go_enter Tryd.func33, Tryd.ntmps33
  go_upto_region 1 with fail
  obtain ⟨X, hX, hBX, hXs, hX0⟩ := alloc1 w (.cells (bytes (List.replicate 32 0)) 32)
  rw [show w.alloc (.cells #[.int .u8 0, .int .u8 0, .int .u8 0, .int .u8 0, .int .u8 0, .int .u8 0, .int .u8 0, .int .u8 0, .int .u8 0, .int .u8 0, .int .u8 0, .int .u8 0, .int .u8 0, .int .u8 0, .int .u8 0, .int .u8 0, .int .u8 0, .int .u8 0, .int .u8 0, .int .u8 0, .int .u8 0, .int .u8 0, .int .u8 0, .int .u8 0, .int .u8 0, .int .u8 0, .int .u8 0, .int .u8 0, .int .u8 0, .int .u8 0, .int .u8 0, .int .u8 0] 32) = X from hX]
  have HB0 := Lib.hid hBX
  have HO0 := Lib.hid hX0
  have HXS := Lib.hid hXs
  have HSX := Lib.hid (HS.out.below hBX (Nat.le_refl _))
  clear hX hBX hX0 hXs
  go_upto_region 4 with (first
    | (at_builtin; refine wpList_append_b rfl (.tmp 4) (.tmp 5) 22 5 rfl Tryd.underlying22 info_u8 X.heap.size (.slice none 0 0) [] (OwnB.nil _ _ _) rfl _ b HSX.out rfl (by have := HN.out; simp; omega) (Nat.le_refl _) ?_; intro v2 w1 ho hg hn'; have HO1 := Lib.hid ho; have HB1 := Lib.hid ((Below.refl X.heap.size X).grown hg (Nat.le_refl _) (fun k e => by cases e)); clear ho hg hn')
    | (go_at_call 32; refine (HBH.out _).mono ?_; rintro e w2 ⟨v3, rfl, ho, hb⟩; have HO2 := Lib.hid ho.sl; have HO1b := Lib.hid (HO1.out.below hb (Nat.le_refl _)); have HB2 := Lib.hid (HB1.out.trans (hb.mono HB1.out.size)); clear ho hb)
    | (at_builtin; refine wpList_append_b rfl (.tmp 7) (.tmp 10) 22 5 rfl Tryd.underlying22 info_u8 X.heap.size _ _ HO1b.out rfl _ _ HO2.out rfl (by have := HBL.out; have := HN.out; simp; omega) HB2.out.size ?_; intro v4 w3 ho hg hn'; have HO3 := Lib.hid ho; have HB3 := Lib.hid (HB2.out.grown hg HB2.out.size (fun k e => (World.ownsRow.lt HO1b.out k e).1)); clear ho hg hn'))
  rw [List.nil_append] at HO3
  have hxs := HXS.out
  have HOR := Lib.hid (show ∀ W, Below X.heap.size X W → W.heap[w.heap.size]? = some (.cells (bytes (List.replicate 32 0)) 32 (0, 0)) from fun W h => (h.block _ (by omega)).trans HO0.out)
  go_wp2_with (first
    | (go_at_call 30; refine (HST.out _).mono ?_; rintro e w4 ⟨rfl, hb⟩; have HO4 := Lib.hid (HO3.out.sl.below hb (Nat.le_refl _)); have HB4 := Lib.hid (HB3.out.trans (hb.mono HB3.out.size)); clear hb)
    | (go_at_call 70; refine (HFO.out _ _ HO4.out).mono ?_; rintro e w5 ⟨rfl, hb⟩; have HB5 := Lib.hid (HB4.out.trans (hb.mono HB4.out.size)); clear hb)
    | (go_at_call 69; refine (HTO.out _).mono ?_; rintro e w6 ⟨rfl, hb⟩; have HB6 := Lib.hid (HB5.out.trans (hb.mono HB5.out.size)); have HO6 := Lib.hid (HOR.out _ (HB5.out.trans (hb.mono HB5.out.size))); clear hb)
    | (refine wpList_store_row rfl 32 (.tmp 2) (.tmp 15) rfl w.heap.size _ rfl rfl _ _ HO6.out HIH.out (by rw [bytes_size, bytes_size, HSL.out]; rfl) (bytes_one _) ?_))
  have hb2 := HB0.out.trans (HB6.out.mono HB0.out.size)
  exact bodyPost_ret (results_cell_row Tryd.results33 _ _ w.heap.size _ _ _ _ rfl (setRow_heap _ _ _ _ _ _ HO6.out) Tryd.underlying32 rfl HIH.out) rfl ⟨rfl, hb2.trans (((Kept.refl [w.heap.size] w6).setRow (by simp) _).toBelow (B := w.heap.size) (by simp) hb2.size)⟩
end Go.Proofs.YtnoilogepkelaaaDoor
