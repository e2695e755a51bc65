/-
  Slices of bytes: what can be read (SlB), what a call owns (OwnB), and append.
-/
import Derived.Test.YtdnjjemdnlegdaaRow
import Derived.Laws.AppendOwnNone
namespace Go.Proofs.Ytdnjjemdnlegdaa
set_option linter.unusedVariables false
set_option linter.unusedSimpArgs false
open Go Go.RowKit

def byteV (x : BitVec 8) : Value := .int .u8 (bv x)
def bcells (xs : List (BitVec 8)) : List Value := xs.map byteV
theorem bcells_length (xs : List (BitVec 8)) : (bcells xs).length = xs.length := by simp [bcells]
theorem bcells_append (xs ys : List (BitVec 8)) : bcells (xs ++ ys) = bcells xs ++ bcells ys := by simp [bcells]
theorem bcells_get? (xs : List (BitVec 8)) (j : Nat) (h : j < xs.length) : (bcells xs)[j]? = some (byteV (xs.getD j 0)) := by simp [bcells, h]
theorem bcells_one (xs : List (BitVec 8)) : ∀ u ∈ bcells xs, u.oneCell' = true := by
  intro u hu
  simp only [bcells, List.mem_map] at hu
  obtain ⟨x, _, rfl⟩ := hu
  rfl

/-- The slice value v reads as the bytes xs. -/
def SlB (w : World) (v : Value) (xs : List (BitVec 8)) : Prop :=
  ((∃ a, v = .slice a 0 0) ∧ xs = []) ∨
  ∃ b off cap, v = .slice (some ⟨b, off, none⟩) xs.length cap ∧ xs.length ≤ cap ∧ cap ≤ maxLen ∧ b < w.heap.size ∧
    ∀ j, j < xs.length → w.cell? ⟨b, off + j, none⟩ = some (byteV (xs.getD j 0))

theorem SlB.nil (w : World) : SlB w (.slice none 0 0) [] := .inl ⟨⟨none, rfl⟩, rfl⟩
theorem SlB.below {B : Nat} {w w' : World} {v : Value} {xs : List (BitVec 8)} (h : SlB w v xs) (hb : Below B w w') (hB : w.heap.size ≤ B) : SlB w' v xs := by
  rcases h with h | ⟨b, off, cap, rfl, h1, h2, h3, h4⟩
  · exact .inl h
  · refine .inr ⟨b, off, cap, rfl, h1, h2, by have := hb.size; omega, fun j hj => ?_⟩
    exact (hb.cell (p := ⟨b, off + j, none⟩) (by show b < B; omega)).trans (h4 j hj)
theorem SlB.grown {w w' : World} {v : Value} {xs : List (BitVec 8)} {row : Option Nat} (h : SlB w v xs) (hg : w.grownBy w' row) (hne : v.ownBlock = none ∨ v.ownBlock ≠ row) : SlB w' v xs := by
  rcases h with h | ⟨b, off, cap, rfl, h1, h2, h3, h4⟩
  · exact .inl h
  · refine .inr ⟨b, off, cap, rfl, h1, h2, by have := hg.size; omega, fun j hj => ?_⟩
    have hb := hg.block b h3 (by simpa [Value.ownBlock] using hne)
    exact (World.cell?_of_block (a := ⟨b, off + j, none⟩) hb).trans (h4 j hj)
theorem SlB.alloc {w : World} {v : Value} {xs : List (BitVec 8)} (h : SlB w v xs) (o : Obj) : SlB (w.alloc o) v xs :=
  h.grown (World.grownBy_alloc w o none) (by cases hv : v.ownBlock <;> simp)
theorem SlB.drew {w : World} {v : Value} {xs : List (BitVec 8)} (h : SlB w v xs) : SlB w.drew v xs := h
theorem SlB.drewN {w : World} {v : Value} {xs : List (BitVec 8)} (h : SlB w v xs) (n : Nat) : SlB (w.drewN n) v xs := h
theorem SlB.len {w : World} {v : Value} {xs : List (BitVec 8)} (h : SlB w v xs) : ∃ a cap, v = .slice a xs.length cap := by
  rcases h with ⟨⟨a, rfl⟩, rfl⟩ | ⟨b, off, cap, rfl, _⟩
  · exact ⟨a, 0, rfl⟩
  · exact ⟨_, cap, rfl⟩

theorem SlB.open_ {w : World} {v : Value} {xs : List (BitVec 8)} (h : SlB w v xs) (n : Nat) (hn : xs.length = n) (h0 : 0 < n) : ∃ b off cap, v = .slice (some ⟨b, off, none⟩) n cap ∧ n ≤ cap ∧ b < w.heap.size := by
  subst hn
  rcases h with ⟨_, rfl⟩ | ⟨b, off, cap, rfl, h1, h2, h3, h4⟩
  · simp at h0
  · exact ⟨b, off, cap, rfl, h1, h3⟩

/-- A block whose cells are just these bytes. -/
theorem SlB.block {w : World} {b : Nat} {cs : Array Value} {t : TypeId} {fr : Nat × Nat} (hb : w.heap[b]? = some (.cells cs t fr)) (off cap : Nat) (xs : List (BitVec 8)) (h1 : xs.length ≤ cap) (h2 : cap ≤ maxLen)
    (hx : ∀ j, j < xs.length → cs[off + j]? = some (byteV (xs.getD j 0))) : SlB w (.slice (some ⟨b, off, none⟩) xs.length cap) xs :=
  .inr ⟨b, off, cap, rfl, h1, h2, (Array.getElem?_eq_some_iff.1 hb).1, fun j hj => (cell_of_row w b (off + j) cs t fr hb).trans (hx j hj)⟩

/-- A block read cell by cell. -/
theorem SlB.ofRow {w : World} {b n cap : Nat} {C : Array Value} {xs : List (BitVec 8)} (hC : C.toList = bcells xs) (hn : n = xs.length) (hlt : b < w.heap.size) (hcell : ∀ j, w.cell? ⟨b, j, none⟩ = C[j]?) (h1 : xs.length ≤ cap) (h2 : cap ≤ maxLen) :
    SlB w (.slice (some ⟨b, 0, none⟩) n cap) xs := by
  subst hn
  refine .inr ⟨b, 0, cap, rfl, h1, h2, hlt, fun j hj => ?_⟩
  rw [Nat.zero_add, hcell j, ← Array.getElem?_toList, hC]
  exact bcells_get? xs j hj
theorem bytes_toList (xs : List (BitVec 8)) : (bytes xs).toList = bcells xs := by simp [bytes, bcells, byteV]

/-- A piece of a slice. -/
theorem SlB.cell {w : World} {b off len cap : Nat} {xs : List (BitVec 8)} (h : SlB w (.slice (some ⟨b, off, none⟩) len cap) xs) (j : Nat) (hj : j < xs.length) : w.cell? ⟨b, off + j, none⟩ = some (byteV (xs.getD j 0)) := by
  rcases h with ⟨_, rfl⟩ | ⟨b', off', cap', h, _, _, _, h4⟩
  · simp at hj
  · simp only [Value.slice.injEq, Option.some.injEq, Addr.mk.injEq] at h
    obtain ⟨⟨rfl, rfl, _⟩, _, _⟩ := h
    exact h4 j hj

theorem SlB.drop {w : World} {b off len cap : Nat} {xs : List (BitVec 8)} (h : SlB w (.slice (some ⟨b, off, none⟩) len cap) xs) (k : Nat) (hk : k ≤ len) :
    SlB w (.slice (some ⟨b, off + k, none⟩) (len - k) (cap - k)) (xs.drop k) := by
  rcases h with ⟨⟨a, h⟩, rfl⟩ | ⟨b', off', cap', h, h1, h2, h3, h4⟩
  · simp only [Value.slice.injEq] at h
    obtain ⟨_, rfl, rfl⟩ := h
    obtain rfl : k = 0 := by omega
    exact .inl ⟨⟨_, rfl⟩, by simp⟩
  · simp only [Value.slice.injEq, Option.some.injEq, Addr.mk.injEq] at h
    obtain ⟨⟨rfl, rfl, _⟩, rfl, rfl⟩ := h
    refine .inr ⟨b, off + k, cap - k, by simp, by simp; omega, by omega, h3, fun j hj => ?_⟩
    simp at hj
    rw [Nat.add_assoc, h4 (k + j) (by omega)]
    simp
theorem SlB.take {w : World} {b off len cap : Nat} {xs : List (BitVec 8)} (h : SlB w (.slice (some ⟨b, off, none⟩) len cap) xs) (k : Nat) (hk : k ≤ len) :
    SlB w (.slice (some ⟨b, off, none⟩) k cap) (xs.take k) := by
  rcases h with ⟨⟨a, h⟩, rfl⟩ | ⟨b', off', cap', h, h1, h2, h3, h4⟩
  · simp only [Value.slice.injEq] at h
    obtain ⟨_, rfl, rfl⟩ := h
    obtain rfl : k = 0 := by omega
    exact .inl ⟨⟨_, rfl⟩, by simp⟩
  · simp only [Value.slice.injEq, Option.some.injEq, Addr.mk.injEq] at h
    obtain ⟨⟨rfl, rfl, _⟩, rfl, rfl⟩ := h
    have e : (xs.take k).length = k := by simp; omega
    refine .inr ⟨b, off, cap, by rw [e], by omega, h2, h3, fun j hj => ?_⟩
    rw [e] at hj
    rw [h4 j (by omega)]
    simp [hj]
theorem SlB.setCell {w : World} {g off len cap : Nat} {xs : List (BitVec 8)} (h : SlB w (.slice (some ⟨g, off, none⟩) len cap) xs) {b o : Nat} {sp : Option Nat} (hne : g ≠ b) (v : Value) :
    SlB (w.setCell ⟨b, o, sp⟩ v) (.slice (some ⟨g, off, none⟩) len cap) xs :=
  h.grown (grownBy_setCell (World.grownBy.refl w _) v) (by simp [Value.ownBlock, hne])
theorem SlB.bounds {w : World} {a : Option Addr} {len cap : Nat} {xs : List (BitVec 8)} (h : SlB w (.slice a len cap) xs) : len = xs.length ∧ len ≤ cap ∧ cap ≤ maxLen := by
  rcases h with ⟨⟨a', h⟩, rfl⟩ | ⟨b', off', cap', h, h1, h2, h3, h4⟩
  · simp only [Value.slice.injEq] at h
    obtain ⟨rfl, rfl, rfl⟩ := h
    exact ⟨rfl, Nat.le_refl _, by decide⟩
  · simp only [Value.slice.injEq] at h
    obtain ⟨rfl, rfl, rfl⟩ := h
    exact ⟨rfl, h1, h2⟩

/-- What a call owns. E: the element type's number. -/
def OwnB (E base : Nat) (w : World) (v : Value) (xs : List (BitVec 8)) : Prop := w.ownsRow base E 1 v xs.length (bcells xs)

theorem OwnB.nil (E base : Nat) (w : World) : OwnB E base w (.slice none 0 0) [] := World.ownsRow_nil _ _ _ _
theorem OwnB.sl {E base : Nat} {w : World} {v : Value} {xs : List (BitVec 8)} (h : OwnB E base w v xs) : SlB w v xs := by
  rcases h with ⟨h1, ⟨rfl, h2⟩ | ⟨g, cap, cur, rfl, hb, hg, hn, hm, hs, ht⟩⟩
  · exact .inl ⟨⟨none, rfl⟩, List.eq_nil_of_length_eq_zero h2⟩
  · refine .inr ⟨g, 0, cap, rfl, hn, hm, (Array.getElem?_eq_some_iff.1 hg).1, fun j hj => ?_⟩
    rw [cell_of_row w g (0 + j) cur E (0, 0) hg, Nat.zero_add]
    have := bcells_get? xs j hj
    rw [← ht, List.getElem?_take] at this
    rw [if_pos (by omega)] at this
    simpa using this
theorem OwnB.form {E base : Nat} {w : World} {v : Value} {xs : List (BitVec 8)} (h : OwnB E base w v xs) (n : Nat) (hn : xs.length = n) (h0 : 0 < n) :
    ∃ g cap, v = .slice (some ⟨g, 0, none⟩) n cap ∧ base ≤ g ∧ g < w.heap.size ∧ n ≤ cap ∧ SlB w (.slice (some ⟨g, 0, none⟩) n cap) xs := by
  have hs := h.sl
  subst hn
  rcases h.2 with ⟨rfl, h2⟩ | ⟨g, cap, cur, rfl, hb, hg, hn, hm, _⟩
  · omega
  · exact ⟨g, cap, rfl, hb, (Array.getElem?_eq_some_iff.1 hg).1, hn, hs⟩
theorem OwnB.below {E base B : Nat} {w w' : World} {v : Value} {xs : List (BitVec 8)} (h : OwnB E base w v xs) (hb : Below B w w') (hB : w.heap.size ≤ B) : OwnB E base w' v xs := by
  refine ⟨h.1, ?_⟩
  rcases h.2 with hn | ⟨g, cap, cur, rfl, h1, hg, h2⟩
  · exact .inl hn
  · refine .inr ⟨g, cap, cur, rfl, h1, ?_, h2⟩
    rw [hb.block g (by have := (Array.getElem?_eq_some_iff.1 hg).1; omega)]
    exact hg
theorem OwnB.mono {E base base' : Nat} {w : World} {v : Value} {xs : List (BitVec 8)} (h : OwnB E base w v xs) (hB : base' ≤ base) : OwnB E base' w v xs := by
  refine ⟨h.1, ?_⟩
  rcases h.2 with hn | ⟨g, cap, cur, rfl, h1, hg⟩
  · exact .inl hn
  · exact .inr ⟨g, cap, cur, rfl, by omega, hg⟩

theorem OwnB.grown {E base : Nat} {w w' : World} {v : Value} {xs : List (BitVec 8)} {row : Option Nat} (h : OwnB E base w v xs) (hg : w.grownBy w' row) (hne : v.ownBlock = none ∨ v.ownBlock ≠ row) : OwnB E base w' v xs := by
  refine ⟨h.1, ?_⟩
  rcases h.2 with hn | ⟨g, cap, cur, rfl, h1, hb, h2⟩
  · exact .inl hn
  · refine .inr ⟨g, cap, cur, rfl, h1, ?_, h2⟩
    rw [hg.block g (Array.getElem?_eq_some_iff.1 hb).1 (by simpa [Value.ownBlock] using hne)]
    exact hb
theorem OwnB.alloc {E base : Nat} {w : World} {v : Value} {xs : List (BitVec 8)} (h : OwnB E base w v xs) (o : Obj) : OwnB E base (w.alloc o) v xs :=
  h.below ((Below.refl _ w).alloc (Nat.le_refl _) o) (Nat.le_refl _)
theorem OwnB.get_cell {E base : Nat} {w : World} {g n cap : Nat} {xs : List (BitVec 8)} (h : OwnB E base w (.slice (some ⟨g, 0, none⟩) n cap) xs) (j : Nat) (hj : j < xs.length) : w.cell? ⟨g, j, none⟩ = some (byteV (xs.getD j 0)) := by
  simpa using h.sl.cell j hj
theorem OwnB.not_frozen {E base : Nat} {w : World} {g n cap : Nat} {xs : List (BitVec 8)} (h : OwnB E base w (.slice (some ⟨g, 0, none⟩) n cap) xs) (j : Nat) : w.frozen? ⟨g, j, none⟩ = false := by
  rcases h.2 with ⟨e, _⟩ | ⟨g', cap', cur, e, _, hg, _⟩
  · simp at e
  · simp only [Value.slice.injEq, Option.some.injEq, Addr.mk.injEq] at e
    obtain ⟨⟨rfl, -, -⟩, rfl, rfl⟩ := e
    exact frozen_of_row w g j _ _ hg
theorem OwnB.set_cell {E base : Nat} {w : World} {g n cap : Nat} {xs : List (BitVec 8)} (h : OwnB E base w (.slice (some ⟨g, 0, none⟩) n cap) xs) (j : Nat) (hj : j < xs.length) (x : BitVec 8) :
    OwnB E base (w.setCell ⟨g, j, none⟩ (.int .u8 (bv x))) (.slice (some ⟨g, 0, none⟩) n cap) (xs.set j x) := by
  refine ⟨by simp [bcells], ?_⟩
  rcases h.2 with ⟨e, _⟩ | ⟨g', cap', cur, e, hb, hg, hn, hm, hs, ht⟩
  · simp at e
  · simp only [Value.slice.injEq, Option.some.injEq, Addr.mk.injEq] at e
    obtain ⟨⟨rfl, -, -⟩, rfl, rfl⟩ := e
    refine .inr ⟨g, cap, cur.setIfInBounds j (.int .u8 (bv x)), by simp, hb, heap_setCell_same w g j _ _ _ hg, by simpa using hn, hm, by simpa using hs, ?_⟩
    simp only [Nat.mul_one] at ht ⊢
    rw [Array.toList_setIfInBounds, List.take_set, List.length_set, ht]
    simp [bcells, byteV, List.map_set]
/-- A new block, full. -/
theorem OwnB.made {E base : Nat} (w : World) (xs : List (BitVec 8)) (hb : base ≤ w.heap.size) (hm : xs.length ≤ maxLen) : OwnB E base (w.alloc (.cells (bytes xs) E)) (.slice (some ⟨w.heap.size, 0, none⟩) xs.length xs.length) xs :=
  ⟨by simp [bcells], .inr ⟨w.heap.size, xs.length, bytes xs, rfl, hb, heap_alloc_new w _, Nat.le_refl _, hm, by simp [bytes_size], by rw [bytes_toList]; exact List.take_of_length_le (by simp [bcells])⟩⟩

/-- The slice value v has the elements vs (one cell each). -/
def SlL (w : World) (v : Value) (vs : List Value) : Prop :=
  (v = .slice none 0 0 ∧ vs = []) ∨
  ∃ b off cap, v = .slice (some ⟨b, off, none⟩) vs.length cap ∧ vs.length ≤ cap ∧ cap ≤ maxLen ∧ b < w.heap.size ∧
    ∀ j, j < vs.length → w.cell? ⟨b, off + j, none⟩ = some (vs.getD j undef)

/-- How many bytes some lists have. -/
def total (xss : List (List (BitVec 8))) : Nat := xss.flatten.length
theorem total_take_succ (xss : List (List (BitVec 8))) (k : Nat) (h : k < xss.length) : total (xss.take (k + 1)) = total (xss.take k) + (xss.getD k []).length := by
  unfold total
  rw [List.take_succ_eq_append_getElem h, List.flatten_append, List.length_append]
  simp [h]
theorem total_take_le (xss : List (List (BitVec 8))) (k : Nat) : total (xss.take k) ≤ total xss := by
  unfold total
  conv => rhs; rw [← List.take_append_drop k xss, List.flatten_append, List.length_append]
  omega
theorem flatten_take_succ (xss : List (List (BitVec 8))) (k : Nat) (h : k < xss.length) : (xss.take (k + 1)).flatten = (xss.take k).flatten ++ xss.getD k [] := by
  rw [List.take_succ_eq_append_getElem h, List.flatten_append]
  simp [h]

section
variable {P : Program}
/-- append(s, x...) onto a slice of the call's own, whatever the other one (nil, too). -/
theorem wpList_append_b {ops : Array Oper} {rest : List Oper} {o : Oper} {a : Act} {w : World} {Q : Exit → Act → World → Prop} (hgd : o.guard = none) (s x : Operand) (T E : TypeId)
    (ho : o.op = .call { callee := .builtin .append, args := #[s, x], argTypes := #[T, T] }) (ht : P.underlying T = some (.slice E))
    (hi : (P.info? E).map (fun i => (i.zero, i.size, i.bytes)) = some (some (.int .u8 0), 1, 1)) (base : Nat)
    (v : Value) (xs : List (BitVec 8)) (hown : OwnB E base w v xs) (hs : a.eval s = v) (u : Value) (ys : List (BitVec 8)) (hsl : SlB w u ys) (hx : a.eval x = u)
    (hlen : xs.length + ys.length ≤ 1000000000) (hbase : base ≤ w.heap.size)
    (h : ∀ v' w', OwnB E base w' v' (xs ++ ys) → w.grownBy w' v.ownBlock → True → wpList P ops Q rest (a.put o.dst v') w') : wpList P ops Q (o :: rest) a w := by
  obtain ⟨i, hi0, hz, hsz, hby⟩ := info_parts hi
  have hm : xs.length + ys.length ≤ maxLen := by unfold maxLen; omega
  rcases hsl with ⟨⟨_ | ad, rfl⟩, rfl⟩ | ⟨b, off, cap, rfl, h1, h2, h3, h4⟩
  · refine wpList_append_own_none hgd s x T ho base E i 1 ht hi0 v xs.length (bcells xs) hs hown hx ?_
    exact h v w (by simpa using hown) ⟨rfl, rfl, rfl, Nat.le_refl _, fun _ _ _ => rfl⟩ trivial
  · refine wpList_append_own w hgd s x T ho base E i (.int .u8 0) 1 1 ht hi0 hz hsz hby rfl (by decide) v xs.length (bcells xs) hs hown ad 0 0 [] hx rfl (by simp) (by simp) (by simpa using hm) (by omega) hbase ?_
    intro v' w' ho' hg' hn'
    exact h v' w' (by simpa [OwnB] using ho') hg' trivial
  · refine wpList_append_own w hgd s x T ho base E i (.int .u8 0) 1 1 ht hi0 hz hsz hby rfl (by decide) v xs.length (bcells xs) hs hown ⟨b, off, none⟩ ys.length cap (bcells ys) hx (by simp [bcells]) ?_ (bcells_one ys) hm (by omega) hbase ?_
    · intro j y hj
      have hlt : j < ys.length := by
        rw [← bcells_length]
        exact (List.getElem?_eq_some_iff.1 hj).1
      rw [bcells_get? ys j hlt] at hj
      obtain rfl : byteV (ys.getD j 0) = y := by simpa using hj
      have hadd : (⟨b, off, none⟩ : Addr).add j = ⟨b, off + j, none⟩ := by unfold Addr.add; split <;> simp_all
      rw [hadd]
      exact h4 j hlt
    · intro v' w' ho' hg' hn'
      refine h v' w' ?_ hg' trivial
      simpa [OwnB, bcells_append] using ho'
end
end Go.Proofs.Ytdnjjemdnlegdaa
