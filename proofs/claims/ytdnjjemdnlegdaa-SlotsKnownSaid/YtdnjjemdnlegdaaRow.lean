/-
  Opening a law's arguments: arrays of words and bytes by value, slices of bytes.
-/
import Derived.Test.YtdnjjemdnlegdaaMem
import Derived.Test.YtdnjjemdnlegdaaU32
import Derived.ProofKit
import Derived.OpenShut
import Derived.ShutString
import Derived.ChangeOld
namespace Go.Proofs.Ytdnjjemdnlegdaa
set_option linter.unusedVariables false
set_option linter.unusedSimpArgs false
open Go Go.RowKit Go.WideShapes Go.ChangeShapes

/-- Words, bytes as cells. -/
def words (xs : List (BitVec 32)) : Array Value := (xs.map fun x => Value.int .u32 (wv x)).toArray
def bytes (xs : List (BitVec 8)) : Array Value := (xs.map fun x => Value.int .u8 (bv x)).toArray
theorem words_size (xs : List (BitVec 32)) : (words xs).size = xs.length := by simp [words]
theorem bytes_size (xs : List (BitVec 8)) : (bytes xs).size = xs.length := by simp [bytes]

theorem words_get? (xs : List (BitVec 32)) (j : Nat) (h : j < xs.length) : (words xs)[j]? = some (.int .u32 (wv (xs.getD j 0))) := by simp [words, h]
theorem words_set (xs : List (BitVec 32)) (j : Nat) (x : BitVec 32) : (words xs).setIfInBounds j (.int .u32 (wv x)) = words (xs.set j x) := by simp [words, List.map_set]
theorem bytes_get? (xs : List (BitVec 8)) (j : Nat) (h : j < xs.length) : (bytes xs)[j]? = some (.int .u8 (bv (xs.getD j 0))) := by simp [bytes, h]
theorem bytes_set (xs : List (BitVec 8)) (j : Nat) (x : BitVec 8) : (bytes xs).setIfInBounds j (.int .u8 (bv x)) = bytes (xs.set j x) := by simp [bytes, List.map_set]

theorem words_one (xs : List (BitVec 32)) : (words xs).all (·.oneCell') = true := by
  rw [Array.all_eq_true_iff_forall_mem]
  intro v hv
  simp [words] at hv
  obtain ⟨x, _, rfl⟩ := hv
  rfl
theorem bytes_one (xs : List (BitVec 8)) : (bytes xs).all (·.oneCell') = true := by
  rw [Array.all_eq_true_iff_forall_mem]
  intro v hv
  simp [bytes] at hv
  obtain ⟨x, _, rfl⟩ := hv
  rfl

section
variable {P : Program}

theorem cell_int {w : World} {r : Reach} {base : Nat} {u : TypeId} {k : IntKind} {v : Value} (hu : P.underlying u = some (.int k)) (h : Cell.okWide P w r base u v) :
    ∃ n, v = .int k n ∧ k.min ≤ n ∧ n ≤ k.max := by
  unfold Cell.okWide at h
  rw [hu] at h
  unfold Cell.ok at h
  rw [hu] at h
  cases v <;> simp at h
  obtain ⟨rfl, h1, h2⟩ := h
  exact ⟨_, rfl, h1, h2⟩

theorem list_of_cells {α : Type} (f : α → Value) : ∀ (l : List Value), (∀ v ∈ l, ∃ x, v = f x) → ∃ xs : List α, l = xs.map f
  | [], _ => ⟨[], rfl⟩
  | v :: l, h => by
    obtain ⟨x, rfl⟩ := h v (by simp)
    obtain ⟨xs, rfl⟩ := list_of_cells f l fun u hu => h u (by simp [hu])
    exact ⟨x :: xs, rfl⟩

/-- Cells i to i + n of an aggregate whose cells have the types ts. -/
theorem open_part {α : Type} (f : α → Value) {w : World} {r : Reach} {base : Nat} {t u : TypeId} {v : Value} {ts : List TypeId} {d : TypeDesc} (ht : P.underlying t = some d)
    (hd : (match d with | .struct _ | .array _ _ => true | _ => false) = true) (hts : P.cellTypes P.depth t = some ts) (hcs : P.cellsOf t = ts.length)
    (h : Value.okWide P w r base t v) : ∃ cs : Array Value, v = .agg cs ∧ cs.size = ts.length ∧
      ∀ (i n : Nat), i + n ≤ ts.length → (∀ j, j < n → ts[i + j]? = some u) → (∀ c, Cell.okWide P w r base u c → ∃ x, c = f x) → ∃ xs : List α, xs.length = n ∧ (cs.extract i (i + n)).toList = xs.map f := by
  unfold Value.okWide at h
  rw [ht] at h
  have h' : ∃ cs, v = .agg cs ∧ cs.size = P.cellsOf t ∧ Row.okWide P w r base t cs := by
    cases d <;> simp at hd <;> exact h
  obtain ⟨cs, rfl, hs, ts', hts', _, hall⟩ := h'
  rw [hts] at hts'
  obtain rfl : ts = ts' := by simpa using hts'
  refine ⟨cs, rfl, hs.trans hcs, fun i n hin hu hf => ?_⟩
  obtain ⟨xs, hxs⟩ := list_of_cells f (cs.extract i (i + n)).toList fun c hc => by
    rw [Array.mem_toList_iff, Array.mem_extract_iff_getElem] at hc
    obtain ⟨j, hj, rfl⟩ := hc
    have hlt : i + j < cs.size := by omega
    obtain ⟨u', hu', hc'⟩ := hall (i + j) cs[i + j] (by simp [hlt])
    rw [Nat.mod_eq_of_lt (by omega), hu j (by omega)] at hu'
    obtain rfl : u = u' := by simpa using hu'
    exact hf _ hc'
  refine ⟨xs, ?_, hxs⟩
  have := congrArg List.length hxs
  simp at this
  omega

theorem cell_word {w : World} {r : Reach} {base : Nat} {u : TypeId} (hu : P.underlying u = some (.int .u32)) (c : Value) (h : Cell.okWide P w r base u c) : ∃ x : BitVec 32, c = .int .u32 (wv x) := by
  obtain ⟨n, rfl, h0, h1⟩ := cell_int hu h
  have e0 : IntKind.u32.min = 0 := rfl
  have e1 : IntKind.u32.max = 4294967295 := rfl
  obtain ⟨x, rfl⟩ := wv_of (n := n) (by omega) (by omega)
  exact ⟨x, rfl⟩
theorem cell_byte {w : World} {r : Reach} {base : Nat} {u : TypeId} (hu : P.underlying u = some (.int .u8)) (c : Value) (h : Cell.okWide P w r base u c) : ∃ x : BitVec 8, c = .int .u8 (bv x) := by
  obtain ⟨n, rfl, h0, h1⟩ := cell_int hu h
  have e0 : IntKind.u8.min = 0 := rfl
  have e1 : IntKind.u8.max = 255 := rfl
  obtain ⟨x, rfl⟩ := bv_of (n := n) (by omega) (by omega)
  exact ⟨x, rfl⟩

theorem replicate_get {α : Type} (n i j : Nat) (x : α) (h : i + j < n) : (List.replicate n x)[i + j]? = some x := by simp [h]

theorem open_words {w : World} {r : Reach} {base : Nat} {t e n : Nat} {v : Value} (ht : P.underlying t = some (.array n e)) (he : P.underlying e = some (.int .u32))
    (hts : P.cellTypes P.depth t = some (List.replicate n e)) (hcs : P.cellsOf t = n) (h : Value.okWide P w r base t v) : ∃ xs : List (BitVec 32), xs.length = n ∧ v = .agg (words xs) := by
  obtain ⟨cs, rfl, hs, hp⟩ := open_part (u := e) (fun x : BitVec 32 => Value.int .u32 (wv x)) ht rfl hts (by simpa using hcs) h
  obtain ⟨xs, hl, hx⟩ := hp 0 n (by simp) (fun j hj => replicate_get n 0 j e (by omega)) (fun c hc => cell_word he c hc)
  refine ⟨xs, hl, ?_⟩
  have : cs.extract 0 (0 + n) = cs := by simp at hs; simp [← hs]
  rw [this] at hx
  simp only [words, ← hx, Array.toArray_toList]
theorem open_bytes {w : World} {r : Reach} {base : Nat} {t e n : Nat} {v : Value} (ht : P.underlying t = some (.array n e)) (he : P.underlying e = some (.int .u8))
    (hts : P.cellTypes P.depth t = some (List.replicate n e)) (hcs : P.cellsOf t = n) (h : Value.okWide P w r base t v) : ∃ xs : List (BitVec 8), xs.length = n ∧ v = .agg (bytes xs) := by
  obtain ⟨cs, rfl, hs, hp⟩ := open_part (u := e) (fun x : BitVec 8 => Value.int .u8 (bv x)) ht rfl hts (by simpa using hcs) h
  obtain ⟨xs, hl, hx⟩ := hp 0 n (by simp) (fun j hj => replicate_get n 0 j e (by omega)) (fun c hc => cell_byte he c hc)
  refine ⟨xs, hl, ?_⟩
  have : cs.extract 0 (0 + n) = cs := by simp at hs; simp [← hs]
  rw [this] at hx
  simp only [bytes, ← hx, Array.toArray_toList]
end
end Go.Proofs.Ytdnjjemdnlegdaa
