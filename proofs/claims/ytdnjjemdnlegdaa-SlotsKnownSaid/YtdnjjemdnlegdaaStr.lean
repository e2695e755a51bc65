/-
  Strings of bytes: what string(b) is of any slice of bytes.
-/
import Derived.Test.YtdnjjemdnlegdaaLibC
import Derived.Test.YtdnjjemdnlegdaaKept
import Derived.Laws.BytesArg
import Derived.Laws.MakeOwn
namespace Go.Proofs.Ytdnjjemdnlegdaa
set_option linter.unusedVariables false
set_option linter.unusedSimpArgs false
open Go Go.RowKit

/-- The text of bytes. -/
def strB (xs : List (BitVec 8)) : ByteArray := strOfNums (xs.map bv)
theorem strB_nil : strB [] = ByteArray.empty := rfl
theorem strB_size (xs : List (BitVec 8)) : (strB xs).size = xs.length := by simp [strB, strOfNums_size]
theorem strB_inj {xs ys : List (BitVec 8)} (h : strB xs = strB ys) : xs = ys := by
  have hd : (strOfNums (xs.map bv)).data.toList = (strOfNums (ys.map bv)).data.toList := by unfold strB at h; rw [h]
  rw [strOfNums_data, strOfNums_data, List.map_map, List.map_map] at hd
  have hf : ∀ x : BitVec 8, (UInt8.ofNat (bv x).toNat).toBitVec = x := fun x => by
    apply BitVec.eq_of_toNat_eq
    have := x.isLt
    simp [bv]
  have h2 := congrArg (List.map UInt8.toBitVec) hd
  simp only [List.map_map] at h2
  have e : (UInt8.toBitVec ∘ (fun n : Int => UInt8.ofNat n.toNat) ∘ bv) = id := by funext x; exact hf x
  rwa [e, List.map_id, List.map_id] at h2
theorem conv_any {w : World} {v : Value} {xs : List (BitVec 8)} (h : SlB w v xs) : (convert 22 9 v).run Try.prog w = .ok (.string (strB xs)) w := by
  rcases h with ⟨⟨_ | ad, rfl⟩, rfl⟩ | ⟨b, off, cap, rfl, h1, h2, h3, h4⟩
  · rw [strB_nil]
    exact run_convert_bytes_nil w 22 5 Try.underlying22 Try.underlying5 0 0 9 Try.underlying9
  · rw [run_convert_bytes_string w 22 9 5 _ 0 0 Try.underlying22 Try.underlying5 Try.underlying9, run_bytesToString w _ 0 0 [] (by simp [loadCells, loadCellsFrom])]
    rfl
  · refine run_convert_bytes_arg w 22 5 Try.underlying22 Try.underlying5 b off xs.length cap (xs.map bv) (by simp) (fun i hi => ?_) 9 Try.underlying9
    rw [h4 i hi]
    simp [byteV, List.getD, List.getElem?_map, List.getElem?_eq_getElem hi]
/-- Where a slice's bytes lie. -/
theorem SlB.lt {w : World} {v : Value} {xs : List (BitVec 8)} (h : SlB w v xs) (hx : xs ≠ []) : ∀ k, v.ownBlock = some k → k < w.heap.size := by
  rcases h with ⟨_, rfl⟩ | ⟨b, off, cap, rfl, h1, h2, h3, h4⟩
  · exact absurd rfl hx
  · intro k hk
    simp only [Value.ownBlock, Option.some.injEq] at hk
    subst hk
    exact h3
/-- A slice lies apart from new blocks. -/
theorem SlB.keptN {l : List Nat} {w w' : World} {v : Value} {xs : List (BitVec 8)} {B : Nat} (h : SlB w v xs) (hk : Kept l w w') (hl : ∀ k, k ∈ l → B ≤ k) (hv : xs ≠ [] → ∀ k, v.ownBlock = some k → k < B) : SlB w' v xs := by
  by_cases hx : xs = []
  · subst hx
    rcases h with h | ⟨b, off, cap, rfl, h1, h2, h3, h4⟩
    · exact .inl h
    · exact .inr ⟨b, off, cap, rfl, h1, h2, Nat.lt_of_lt_of_le h3 hk.size, fun j hj => absurd hj (by simp)⟩
  · exact h.keptV hk (fun k e hm => by have := hl k hm; have := hv hx k e; omega)
/-- The first k bytes. -/
theorem SlB.upTo {w : World} {a : Option Addr} {len cap : Nat} {xs : List (BitVec 8)} (h : SlB w (.slice a len cap) xs) (k : Nat) (hk : k ≤ len) : SlB w (.slice a k cap) (xs.take k) := by
  rcases h with ⟨⟨a', e⟩, rfl⟩ | ⟨b, off, c, e, h1, h2, h3, h4⟩
  · simp only [Value.slice.injEq] at e
    obtain ⟨rfl, rfl, rfl⟩ := e
    obtain rfl : k = 0 := by omega
    exact .inl ⟨⟨_, rfl⟩, by simp⟩
  · simp only [Value.slice.injEq] at e
    obtain ⟨rfl, rfl, rfl⟩ := e
    exact SlB.take (.inr ⟨b, off, cap, rfl, h1, h2, h3, h4⟩) k hk
/-- The bytes from k on, as the walk spells the slice. -/
def fromV (a : Option Addr) (n cap k : Nat) : Value := .slice (if cap = k then a else a.map (fun x => x.add k)) (n - k) (cap - k)
theorem SlB.from_ {w : World} {a : Option Addr} {len cap : Nat} {xs : List (BitVec 8)} (h : SlB w (.slice a len cap) xs) (k : Nat) (hk : k ≤ len) : SlB w (fromV a len cap k) (xs.drop k) := by
  unfold fromV
  rcases h with ⟨⟨a', e⟩, rfl⟩ | ⟨b, off, c, e, h1, h2, h3, h4⟩
  · simp only [Value.slice.injEq] at e
    obtain ⟨rfl, rfl, rfl⟩ := e
    obtain rfl : k = 0 := by omega
    exact .inl ⟨⟨_, rfl⟩, by simp⟩
  · simp only [Value.slice.injEq] at e
    obtain ⟨rfl, rfl, rfl⟩ := e
    have hd := SlB.drop (.inr ⟨b, off, cap, rfl, h1, h2, h3, h4⟩) k hk
    by_cases hc : cap = k
    · rw [if_pos hc]
      rw [show xs.length - k = 0 by omega, show cap - k = 0 by omega, List.drop_of_length_le (by omega)]
      exact .inl ⟨⟨_, rfl⟩, rfl⟩
    · rw [if_neg hc]
      have ha : (⟨b, off, none⟩ : Addr).add k = ⟨b, off + k, none⟩ := by unfold Addr.add; split <;> simp_all
      simp only [Option.map_some, ha]
      exact hd
/-- make([]byte, n) of a constant n. -/
theorem made_bytes (n : Nat) (hn : n ≤ 1000000) (w : World) : (Instr.makeSlice 22 (.int .i64 (n : Int)) (.int .i64 (n : Int))).run Try.prog w = .ok (.slice (some ⟨w.heap.size, 0, none⟩) n n) (w.alloc (.cells (bytes (List.replicate n 0)) 5)) := by
  obtain ⟨i, hi, hz, hsz, hby⟩ := info_parts info_u8
  have hm := run_makeSlice (P := Try.prog) w 22 5 i (.int .u8 0) Try.underlying22 hi hz .i64 .i64 (n : Int) (n : Int) (by omega) (by omega) (by rw [hsz]; omega) (by rw [hby]; omega) (by omega)
  rw [hsz, Int.toNat_natCast, Nat.mul_one] at hm
  have hc : madeCells (Value.int .u8 0).cells n = bytes (List.replicate n 0) := by
    have e0 : (Value.int .u8 0).cells = #[.int .u8 0] := rfl
    apply Array.ext_getElem?
    intro j
    by_cases hj : j < n
    · rw [bytes_get? _ j (by simpa using hj)]
      simp [madeCells, e0, hj, bv, Nat.mod_one]
    · rw [Array.getElem?_eq_none (by rw [size_madeCells]; omega), Array.getElem?_eq_none (by rw [bytes_size]; simp; omega)]
  rw [hc] at hm
  exact hm
end Go.Proofs.Ytdnjjemdnlegdaa
