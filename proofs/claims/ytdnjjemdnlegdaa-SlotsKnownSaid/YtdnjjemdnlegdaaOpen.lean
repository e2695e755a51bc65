/-
  Opening a law's arguments off their reading: numbers, bytes, arrays of bytes, slices, structs; over any program.
-/
import Derived.Test.YtdnjjemdnlegdaaSl
import Derived.Deep.Slices
namespace Go.Proofs.Ytdnjjemdnlegdaa
set_option linter.unusedVariables false
set_option linter.unusedSimpArgs false
open Go Go.RowKit Go.WideShapes Go.ChangeShapes

theorem block_lt_of_cell {w : World} {a : Addr} {v : Value} (h : w.cell? a = some v) : a.block < w.heap.size ∧ a.spot = none := by
  unfold World.cell? at h
  split at h
  · rename_i c t f hc
    refine ⟨(Array.getElem?_eq_some_iff.1 hc).1, ?_⟩
    cases hs : a.spot with
    | none => rfl
    | some s => simp [hs] at h
  · simp at h
theorem add_spot (a : Addr) (i : Nat) (h : a.spot = none) : a.add i = ⟨a.block, a.off + i, none⟩ := by
  unfold Addr.add
  split
  · obtain ⟨b, o, s⟩ := a
    simp_all
  · rfl

section
variable {H : Type} {enc : TypeId × Value → H} {P : Program} {w : World} {fuel : Nat} {t e : TypeId} {cs : List Value} {x : DataW H × List MemPlace}

theorem tr_byte (he : P.underlying e = some (.int .u8)) (h : DataW.trod enc P w 0 (fun _ => true) true fuel e cs = some x) : ∃ b : BitVec 8, cs = [byteV b] := by
  obtain ⟨n, rfl, _, hw⟩ := DataW.trod_int he h
  have hb : 0 ≤ n ∧ n ≤ 255 := by simpa [Lit.wf, IntKind.min, IntKind.max, IntKind.bits, IntKind.signed] using hw
  obtain ⟨b, rfl⟩ := bv_of (n := n) (by omega) (by omega)
  exact ⟨b, rfl⟩
theorem tr_int (he : P.underlying e = some (.int .i64)) (h : DataW.trod enc P w 0 (fun _ => true) true fuel e cs = some x) : ∃ n : Int, cs = [.int .i64 n] ∧ -9223372036854775808 ≤ n ∧ n ≤ 9223372036854775807 := by
  obtain ⟨n, rfl, _, hw⟩ := DataW.trod_int he h
  exact ⟨n, rfl, by simpa [Lit.wf, IntKind.min, IntKind.max, IntKind.bits, IntKind.signed] using hw⟩
theorem tr_bool (he : P.underlying e = some .bool) (h : DataW.trod enc P w 0 (fun _ => true) true fuel e cs = some x) : ∃ b : Bool, cs = [.bool b] := by
  obtain ⟨b, rfl, _⟩ := DataW.trod_bool he h
  exact ⟨b, rfl⟩
theorem list_of_parts {α : Type} (f : α → Value) : ∀ (n : Nat) (cs : List Value), cs.length = n → (∀ i, i < n → ∃ a, (cs.drop i).take 1 = [f a]) → ∃ xs : List α, xs.length = n ∧ cs = xs.map f
  | 0, cs, hl, _ => ⟨[], rfl, List.eq_nil_of_length_eq_zero hl⟩
  | n + 1, [], hl, _ => by simp at hl
  | n + 1, c :: cs, hl, h => by
    obtain ⟨a, ha⟩ := h 0 (by omega)
    obtain ⟨xs, h1, h2⟩ := list_of_parts f n cs (by simpa using hl) (fun i hi => by simpa using h (i + 1) (by omega))
    refine ⟨a :: xs, by simp [h1], ?_⟩
    simp at ha
    rw [ha, h2]
    rfl
theorem tr_bytes {n : Nat} (ht : P.underlying t = some (.array n e)) (he : P.underlying e = some (.int .u8)) (hc : P.cellsOf e = 1) (hct : P.cellsOf t = n) (h : DataW.trod enc P w 0 (fun _ => true) true fuel t cs = some x) :
    ∃ xs : List (BitVec 8), xs.length = n ∧ cs = bcells xs := by
  obtain ⟨ys, m, _, _, hl, hyl, hf⟩ := DataW.trod_array ht h
  refine list_of_parts byteV n cs (hl.trans hct) fun i hi => ?_
  have := hf i hi
  rw [hc, Nat.mul_one] at this
  obtain ⟨y, hy⟩ : ∃ y, ys[i]? = some y := ⟨_, List.getElem?_eq_getElem (by omega)⟩
  exact tr_byte he (this.trans hy)
theorem tr_sl (ht : P.underlying t = some (.slice e)) (he : P.underlying e = some (.int .u8)) (hc : P.cellsOf e = 1) (h : DataW.trod enc P w 0 (fun _ => true) true fuel t cs = some x) :
    ∃ (v : Value) (xs : List (BitVec 8)), cs = [v] ∧ SlB w v xs := by
  rcases open_ints ht he hc h with ⟨rfl, _⟩ | ⟨a, len, cap, zs, rfl, _, hl, hm, hz, _, hcell, hwf⟩
  · exact ⟨_, [], rfl, SlB.nil _⟩
  · simp only [if_true] at hz
    by_cases h0 : cap = 0
    · subst h0
      obtain rfl : len = 0 := by omega
      exact ⟨_, [], rfl, .inl ⟨⟨_, rfl⟩, rfl⟩⟩
    · have g0 := hcell 0 (by omega)
      have ha : a.add 0 = a := rfl
      rw [ha] at g0
      obtain ⟨hb, hs⟩ := block_lt_of_cell g0
      refine ⟨_, (zs.take len).map fun n => BitVec.ofNat 8 n.toNat, rfl, .inr ⟨a.block, a.off, cap, ?_, by simp; omega, hm, hb, ?_⟩⟩
      · obtain ⟨b, o, s⟩ := a
        obtain rfl : s = none := hs
        have : min len zs.length = len := by omega
        simp [this]
      · intro j hj
        simp at hj
        have g := hcell j (by omega)
        rw [add_spot _ _ hs] at g
        rw [g]
        have hj' : j < zs.length := by omega
        have hw := hwf (zs.getD j 0) (by simp [List.getD, hj'])
        have hb' : 0 ≤ zs.getD j 0 ∧ zs.getD j 0 ≤ 255 := by simpa [Lit.wf, IntKind.min, IntKind.max, IntKind.bits, IntKind.signed] using hw
        have e1 : ((zs.take len).map fun n => BitVec.ofNat 8 n.toNat).getD j 0 = BitVec.ofNat 8 (zs.getD j 0).toNat := by
          simp [List.getD, hj', show j < len by omega]
        rw [e1]
        unfold byteV bv
        rw [BitVec.toNat_ofNat]
        congr 2
        omega
theorem cut_at (cs : List Value) (k n : Nat) : cs.drop k = (cs.drop k).take n ++ cs.drop (k + n) := by rw [← List.drop_drop, List.take_append_drop]
/-- A slice argument's value. -/
theorem slice_form {r : Reach} {base : Nat} {v : Value} (ht : P.underlying t = some (.slice e)) (h : Value.okWide P w r base t v) : ∃ a l c, v = .slice a l c := by
  unfold Value.okWide Cell.okWide Cell.ok at h
  rw [ht] at h
  cases v <;> simp at h <;> exact ⟨_, _, _, rfl⟩
theorem agg_form {r : Reach} {base : Nat} {v : Value} {fs : Array Field} (ht : P.underlying t = some (.struct fs)) (h : Value.okWide P w r base t v) : ∃ cs, v = .agg cs := by
  unfold Value.okWide at h
  rw [ht] at h
  obtain ⟨cs, rfl, _⟩ := h
  exact ⟨cs, rfl⟩
theorem okWide_cell {r : Reach} {base : Nat} {v : Value} {d : TypeDesc} (ht : P.underlying t = some d) (hd : (match d with | .struct _ | .array _ _ => true | _ => false) = false) (h : Value.okWide P w r base t v) : Cell.okWide P w r base t v := by
  unfold Value.okWide at h
  rw [ht] at h
  cases d <;> simp at hd <;> exact h
/-- A slice of bytes as an argument. -/
theorem open_slice8 {r : Reach} {base : Nat} {v : Value} {d : DataW H} {ps : List MemPlace} (ht : P.underlying t = some (.slice e)) (he : P.underlying e = some (.int .u8)) (hc : P.cellsOf e = 1) (hv : Value.okWide P w r base t v)
    (h : DataW.Trod enc P w 0 (fun _ => true) true t v d ps) : ∃ xs : List (BitVec 8), SlB w v xs := by
  obtain ⟨a, l, c, rfl⟩ := slice_form ht hv
  obtain ⟨m, hm⟩ := h
  obtain ⟨v', xs, e, hs⟩ := tr_sl ht he hc hm
  obtain rfl : Value.slice a l c = v' := by simpa [Value.cells] using e
  exact ⟨xs, hs⟩
/-- A slice of whatever elements, of so many cells each. -/
theorem tr_slice {sz : Nat} (ht : P.underlying t = some (.slice e)) (hc : P.cellsOf e = sz) (h0 : 0 < sz) (h : DataW.trod enc P w 0 (fun _ => true) true fuel t cs = some x) :
    ∃ (a : Option Addr) (len cap : Nat), cs = [.slice a len cap] ∧ len ≤ cap ∧ cap ≤ maxLen ∧ (0 < len → ∃ b off, a = some ⟨b, off, none⟩ ∧ b < w.heap.size ∧ ∀ i, i < len →
      ∃ cs' : List Value, cs'.length = sz ∧ (∀ j u, cs'[j]? = some u → w.cell? ⟨b, off + i * sz + j, none⟩ = some u) ∧ ∃ (n : Nat) (y : DataW H × List MemPlace), DataW.trod enc P w 0 (fun _ => true) true n e cs' = some y) := by
  rcases Deep.open_slice ht h with ⟨rfl, _⟩ | ⟨a, len, cap, m, n, D, Pl, rfl, _, hl, hm, hmm, _, hx⟩
  · exact ⟨none, 0, 0, rfl, Nat.le_refl _, Nat.zero_le _, fun h => absurd h (by omega)⟩
  · simp only [if_true] at hmm
    subst hmm
    refine ⟨some a, len, m, rfl, hl, hm, fun hp => ?_⟩
    rw [hc] at hx
    have hspot : a.block < w.heap.size ∧ a.spot = none := by
      obtain ⟨cs', h1, _⟩ := hx 0 (by omega)
      obtain ⟨_, hlen, hcell⟩ := World.cells?_some h1
      have g : (0 : Nat) < cs'.length := by omega
      have := hcell 0 (by omega)
      rw [List.getElem?_eq_getElem g] at this
      have ha : (a.add (0 * sz)).add 0 = a := by rw [Nat.zero_mul]; rfl
      rw [ha] at this
      exact block_lt_of_cell this
    refine ⟨a.block, a.off, ?_, hspot.1, fun i hi => ?_⟩
    · obtain ⟨b, o, s⟩ := a
      obtain rfl : s = none := hspot.2
      rfl
    · obtain ⟨cs', h1, h2⟩ := hx i (by omega)
      obtain ⟨_, hlen, hcell⟩ := World.cells?_some h1
      refine ⟨cs', hlen, fun j u hu => ?_, n, _, h2⟩
      have hj : j < sz := by rw [← hlen]; exact (List.getElem?_eq_some_iff.1 hu).1
      have g := hcell j hj
      rw [add_spot a _ hspot.2, add_spot _ _ rfl, hu] at g
      exact g
end
end Go.Proofs.Ytdnjjemdnlegdaa
