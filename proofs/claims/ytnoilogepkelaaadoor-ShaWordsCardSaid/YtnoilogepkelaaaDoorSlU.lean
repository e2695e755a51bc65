/-
  Slices of uint64s: what can be read (SlU), what a call owns (OwnU), and append.
-/
import Derived.Test.YtnoilogepkelaaaDoorSl
import Derived.Laws.AppendOwnNone
namespace Go.Proofs.YtnoilogepkelaaaDoor
set_option linter.unusedVariables false
set_option linter.unusedSimpArgs false
open Go Go.RowKit

def longs (xs : List Nat) : Array Value := (xs.map fun (x : Nat) => Value.int .u64 (x : Int)).toArray
theorem longs_size (xs : List Nat) : (longs xs).size = xs.length := by simp [longs]
def longV (x : Nat) : Value := .int .u64 (x : Int)
def lcells (xs : List (Nat)) : List Value := xs.map longV
theorem lcells_length (xs : List (Nat)) : (lcells xs).length = xs.length := by simp [lcells]
theorem lcells_append (xs ys : List (Nat)) : lcells (xs ++ ys) = lcells xs ++ lcells ys := by simp [lcells]
theorem lcells_get? (xs : List (Nat)) (j : Nat) (h : j < xs.length) : (lcells xs)[j]? = some (longV (xs.getD j 0)) := by simp [lcells, h]
theorem lcells_one (xs : List (Nat)) : ∀ u ∈ lcells xs, u.oneCell' = true := by
  intro u hu
  simp only [lcells, List.mem_map] at hu
  obtain ⟨x, _, rfl⟩ := hu
  rfl

/-- The slice value v reads as the numbers xs. -/
def SlU (w : World) (v : Value) (xs : List (Nat)) : Prop :=
  ((∃ a, v = .slice a 0 0) ∧ xs = []) ∨
  ∃ b off cap, v = .slice (some ⟨b, off, none⟩) xs.length cap ∧ xs.length ≤ cap ∧ cap ≤ maxLen ∧ b < w.heap.size ∧
    ∀ j, j < xs.length → w.cell? ⟨b, off + j, none⟩ = some (longV (xs.getD j 0))

theorem SlU.nil (w : World) : SlU w (.slice none 0 0) [] := .inl ⟨⟨none, rfl⟩, rfl⟩
theorem SlU.below {B : Nat} {w w' : World} {v : Value} {xs : List (Nat)} (h : SlU w v xs) (hb : Below B w w') (hB : w.heap.size ≤ B) : SlU w' v xs := by
  rcases h with h | ⟨b, off, cap, rfl, h1, h2, h3, h4⟩
  · exact .inl h
  · refine .inr ⟨b, off, cap, rfl, h1, h2, by have := hb.size; omega, fun j hj => ?_⟩
    exact (hb.cell (p := ⟨b, off + j, none⟩) (by show b < B; omega)).trans (h4 j hj)
theorem SlU.grown {w w' : World} {v : Value} {xs : List (Nat)} {row : Option Nat} (h : SlU w v xs) (hg : w.grownBy w' row) (hne : v.ownBlock = none ∨ v.ownBlock ≠ row) : SlU w' v xs := by
  rcases h with h | ⟨b, off, cap, rfl, h1, h2, h3, h4⟩
  · exact .inl h
  · refine .inr ⟨b, off, cap, rfl, h1, h2, by have := hg.size; omega, fun j hj => ?_⟩
    have hb := hg.block b h3 (by simpa [Value.ownBlock] using hne)
    exact (World.cell?_of_block (a := ⟨b, off + j, none⟩) hb).trans (h4 j hj)
theorem SlU.alloc {w : World} {v : Value} {xs : List (Nat)} (h : SlU w v xs) (o : Obj) : SlU (w.alloc o) v xs :=
  h.grown (World.grownBy_alloc w o none) (by cases hv : v.ownBlock <;> simp)
theorem SlU.drew {w : World} {v : Value} {xs : List (Nat)} (h : SlU w v xs) : SlU w.drew v xs := h
theorem SlU.drewN {w : World} {v : Value} {xs : List (Nat)} (h : SlU w v xs) (n : Nat) : SlU (w.drewN n) v xs := h
theorem SlU.len {w : World} {v : Value} {xs : List (Nat)} (h : SlU w v xs) : ∃ a cap, v = .slice a xs.length cap := by
  rcases h with ⟨⟨a, rfl⟩, rfl⟩ | ⟨b, off, cap, rfl, _⟩
  · exact ⟨a, 0, rfl⟩
  · exact ⟨_, cap, rfl⟩

theorem SlU.open_ {w : World} {v : Value} {xs : List (Nat)} (h : SlU w v xs) (n : Nat) (hn : xs.length = n) (h0 : 0 < n) : ∃ b off cap, v = .slice (some ⟨b, off, none⟩) n cap ∧ n ≤ cap ∧ b < w.heap.size := by
  subst hn
  rcases h with ⟨_, rfl⟩ | ⟨b, off, cap, rfl, h1, h2, h3, h4⟩
  · simp at h0
  · exact ⟨b, off, cap, rfl, h1, h3⟩

/-- A block whose cells are just these numbers. -/
theorem SlU.block {w : World} {b : Nat} {cs : Array Value} {t : TypeId} {fr : Nat × Nat} (hb : w.heap[b]? = some (.cells cs t fr)) (off cap : Nat) (xs : List (Nat)) (h1 : xs.length ≤ cap) (h2 : cap ≤ maxLen)
    (hx : ∀ j, j < xs.length → cs[off + j]? = some (longV (xs.getD j 0))) : SlU w (.slice (some ⟨b, off, none⟩) xs.length cap) xs :=
  .inr ⟨b, off, cap, rfl, h1, h2, (Array.getElem?_eq_some_iff.1 hb).1, fun j hj => (cell_of_row w b (off + j) cs t fr hb).trans (hx j hj)⟩

/-- A block read cell by cell. -/
theorem SlU.ofRow {w : World} {b n cap : Nat} {C : Array Value} {xs : List (Nat)} (hC : C.toList = lcells xs) (hn : n = xs.length) (hlt : b < w.heap.size) (hcell : ∀ j, w.cell? ⟨b, j, none⟩ = C[j]?) (h1 : xs.length ≤ cap) (h2 : cap ≤ maxLen) :
    SlU w (.slice (some ⟨b, 0, none⟩) n cap) xs := by
  subst hn
  refine .inr ⟨b, 0, cap, rfl, h1, h2, hlt, fun j hj => ?_⟩
  rw [Nat.zero_add, hcell j, ← Array.getElem?_toList, hC]
  exact lcells_get? xs j hj
theorem longs_toList (xs : List (Nat)) : (longs xs).toList = lcells xs := by simp [longs, lcells, longV]

/-- A piece of a slice. -/
theorem SlU.cell {w : World} {b off len cap : Nat} {xs : List (Nat)} (h : SlU w (.slice (some ⟨b, off, none⟩) len cap) xs) (j : Nat) (hj : j < xs.length) : w.cell? ⟨b, off + j, none⟩ = some (longV (xs.getD j 0)) := by
  rcases h with ⟨_, rfl⟩ | ⟨b', off', cap', h, _, _, _, h4⟩
  · simp at hj
  · simp only [Value.slice.injEq, Option.some.injEq, Addr.mk.injEq] at h
    obtain ⟨⟨rfl, rfl, _⟩, _, _⟩ := h
    exact h4 j hj

theorem SlU.drop {w : World} {b off len cap : Nat} {xs : List (Nat)} (h : SlU w (.slice (some ⟨b, off, none⟩) len cap) xs) (k : Nat) (hk : k ≤ len) :
    SlU w (.slice (some ⟨b, off + k, none⟩) (len - k) (cap - k)) (xs.drop k) := by
  rcases h with ⟨⟨a, h⟩, rfl⟩ | ⟨b', off', cap', h, h1, h2, h3, h4⟩
  · simp only [Value.slice.injEq] at h
    obtain ⟨_, rfl, rfl⟩ := h
    obtain rfl : k = 0 := by omega
    exact .inl ⟨⟨_, rfl⟩, by simp⟩
  · simp only [Value.slice.injEq, Option.some.injEq, Addr.mk.injEq] at h
    obtain ⟨⟨rfl, rfl, _⟩, rfl, rfl⟩ := h
    refine .inr ⟨b, off + k, cap - k, by simp, by simp; omega, by omega, h3, fun j hj => ?_⟩
    simp at hj
    rw [Nat.add_assoc, h4 (k + j) (by omega)]
    simp
theorem SlU.take {w : World} {b off len cap : Nat} {xs : List (Nat)} (h : SlU w (.slice (some ⟨b, off, none⟩) len cap) xs) (k : Nat) (hk : k ≤ len) :
    SlU w (.slice (some ⟨b, off, none⟩) k cap) (xs.take k) := by
  rcases h with ⟨⟨a, h⟩, rfl⟩ | ⟨b', off', cap', h, h1, h2, h3, h4⟩
  · simp only [Value.slice.injEq] at h
    obtain ⟨_, rfl, rfl⟩ := h
    obtain rfl : k = 0 := by omega
    exact .inl ⟨⟨_, rfl⟩, by simp⟩
  · simp only [Value.slice.injEq, Option.some.injEq, Addr.mk.injEq] at h
    obtain ⟨⟨rfl, rfl, _⟩, rfl, rfl⟩ := h
    have e : (xs.take k).length = k := by simp; omega
    refine .inr ⟨b, off, cap, by rw [e], by omega, h2, h3, fun j hj => ?_⟩
    rw [e] at hj
    rw [h4 j (by omega)]
    simp [hj]
theorem SlU.setCell {w : World} {g off len cap : Nat} {xs : List (Nat)} (h : SlU w (.slice (some ⟨g, off, none⟩) len cap) xs) {b o : Nat} {sp : Option Nat} (hne : g ≠ b) (v : Value) :
    SlU (w.setCell ⟨b, o, sp⟩ v) (.slice (some ⟨g, off, none⟩) len cap) xs :=
  h.grown (grownBy_setCell (World.grownBy.refl w _) v) (by simp [Value.ownBlock, hne])
theorem SlU.bounds {w : World} {a : Option Addr} {len cap : Nat} {xs : List (Nat)} (h : SlU w (.slice a len cap) xs) : len = xs.length ∧ len ≤ cap ∧ cap ≤ maxLen := by
  rcases h with ⟨⟨a', h⟩, rfl⟩ | ⟨b', off', cap', h, h1, h2, h3, h4⟩
  · simp only [Value.slice.injEq] at h
    obtain ⟨rfl, rfl, rfl⟩ := h
    exact ⟨rfl, Nat.le_refl _, by decide⟩
  · simp only [Value.slice.injEq] at h
    obtain ⟨rfl, rfl, rfl⟩ := h
    exact ⟨rfl, h1, h2⟩

/-- What a call owns. E: the element type's number. -/
def OwnU (E base : Nat) (w : World) (v : Value) (xs : List (Nat)) : Prop := w.ownsRow base E 1 v xs.length (lcells xs)

theorem OwnU.nil (E base : Nat) (w : World) : OwnU E base w (.slice none 0 0) [] := World.ownsRow_nil _ _ _ _
theorem OwnU.sl {E base : Nat} {w : World} {v : Value} {xs : List (Nat)} (h : OwnU E base w v xs) : SlU w v xs := by
  rcases h with ⟨h1, ⟨rfl, h2⟩ | ⟨g, cap, cur, rfl, hb, hg, hn, hm, hs, ht⟩⟩
  · exact .inl ⟨⟨none, rfl⟩, List.eq_nil_of_length_eq_zero h2⟩
  · refine .inr ⟨g, 0, cap, rfl, hn, hm, (Array.getElem?_eq_some_iff.1 hg).1, fun j hj => ?_⟩
    rw [cell_of_row w g (0 + j) cur E (0, 0) hg, Nat.zero_add]
    have := lcells_get? xs j hj
    rw [← ht, List.getElem?_take] at this
    rw [if_pos (by omega)] at this
    simpa using this
theorem OwnU.form {E base : Nat} {w : World} {v : Value} {xs : List (Nat)} (h : OwnU E base w v xs) (n : Nat) (hn : xs.length = n) (h0 : 0 < n) :
    ∃ g cap, v = .slice (some ⟨g, 0, none⟩) n cap ∧ base ≤ g ∧ g < w.heap.size ∧ n ≤ cap ∧ SlU w (.slice (some ⟨g, 0, none⟩) n cap) xs := by
  have hs := h.sl
  subst hn
  rcases h.2 with ⟨rfl, h2⟩ | ⟨g, cap, cur, rfl, hb, hg, hn, hm, _⟩
  · omega
  · exact ⟨g, cap, rfl, hb, (Array.getElem?_eq_some_iff.1 hg).1, hn, hs⟩
theorem OwnU.below {E base B : Nat} {w w' : World} {v : Value} {xs : List (Nat)} (h : OwnU E base w v xs) (hb : Below B w w') (hB : w.heap.size ≤ B) : OwnU E base w' v xs := by
  refine ⟨h.1, ?_⟩
  rcases h.2 with hn | ⟨g, cap, cur, rfl, h1, hg, h2⟩
  · exact .inl hn
  · refine .inr ⟨g, cap, cur, rfl, h1, ?_, h2⟩
    rw [hb.block g (by have := (Array.getElem?_eq_some_iff.1 hg).1; omega)]
    exact hg
theorem OwnU.mono {E base base' : Nat} {w : World} {v : Value} {xs : List (Nat)} (h : OwnU E base w v xs) (hB : base' ≤ base) : OwnU E base' w v xs := by
  refine ⟨h.1, ?_⟩
  rcases h.2 with hn | ⟨g, cap, cur, rfl, h1, hg⟩
  · exact .inl hn
  · exact .inr ⟨g, cap, cur, rfl, by omega, hg⟩

theorem OwnU.grown {E base : Nat} {w w' : World} {v : Value} {xs : List (Nat)} {row : Option Nat} (h : OwnU E base w v xs) (hg : w.grownBy w' row) (hne : v.ownBlock = none ∨ v.ownBlock ≠ row) : OwnU E base w' v xs := by
  refine ⟨h.1, ?_⟩
  rcases h.2 with hn | ⟨g, cap, cur, rfl, h1, hb, h2⟩
  · exact .inl hn
  · refine .inr ⟨g, cap, cur, rfl, h1, ?_, h2⟩
    rw [hg.block g (Array.getElem?_eq_some_iff.1 hb).1 (by simpa [Value.ownBlock] using hne)]
    exact hb
theorem OwnU.alloc {E base : Nat} {w : World} {v : Value} {xs : List (Nat)} (h : OwnU E base w v xs) (o : Obj) : OwnU E base (w.alloc o) v xs :=
  h.below ((Below.refl _ w).alloc (Nat.le_refl _) o) (Nat.le_refl _)
theorem OwnU.get_cell {E base : Nat} {w : World} {g n cap : Nat} {xs : List (Nat)} (h : OwnU E base w (.slice (some ⟨g, 0, none⟩) n cap) xs) (j : Nat) (hj : j < xs.length) : w.cell? ⟨g, j, none⟩ = some (longV (xs.getD j 0)) := by
  simpa using h.sl.cell j hj
theorem OwnU.not_frozen {E base : Nat} {w : World} {g n cap : Nat} {xs : List (Nat)} (h : OwnU E base w (.slice (some ⟨g, 0, none⟩) n cap) xs) (j : Nat) : w.frozen? ⟨g, j, none⟩ = false := by
  rcases h.2 with ⟨e, _⟩ | ⟨g', cap', cur, e, _, hg, _⟩
  · simp at e
  · simp only [Value.slice.injEq, Option.some.injEq, Addr.mk.injEq] at e
    obtain ⟨⟨rfl, -, -⟩, rfl, rfl⟩ := e
    exact frozen_of_row w g j _ _ hg
theorem OwnU.set_cell {E base : Nat} {w : World} {g n cap : Nat} {xs : List (Nat)} (h : OwnU E base w (.slice (some ⟨g, 0, none⟩) n cap) xs) (j : Nat) (hj : j < xs.length) (x : Nat) :
    OwnU E base (w.setCell ⟨g, j, none⟩ (.int .u64 (x : Int))) (.slice (some ⟨g, 0, none⟩) n cap) (xs.set j x) := by
  refine ⟨by simp [lcells], ?_⟩
  rcases h.2 with ⟨e, _⟩ | ⟨g', cap', cur, e, hb, hg, hn, hm, hs, ht⟩
  · simp at e
  · simp only [Value.slice.injEq, Option.some.injEq, Addr.mk.injEq] at e
    obtain ⟨⟨rfl, -, -⟩, rfl, rfl⟩ := e
    refine .inr ⟨g, cap, cur.setIfInBounds j (.int .u64 (x : Int)), by simp, hb, heap_setCell_same w g j _ _ _ hg, by simpa using hn, hm, by simpa using hs, ?_⟩
    simp only [Nat.mul_one] at ht ⊢
    rw [Array.toList_setIfInBounds, List.take_set, List.length_set, ht]
    simp [lcells, longV, List.map_set]
/-- A new block, full. -/
theorem OwnU.made {E base : Nat} (w : World) (xs : List (Nat)) (hb : base ≤ w.heap.size) (hm : xs.length ≤ maxLen) : OwnU E base (w.alloc (.cells (longs xs) E)) (.slice (some ⟨w.heap.size, 0, none⟩) xs.length xs.length) xs :=
  ⟨by simp [lcells], .inr ⟨w.heap.size, xs.length, longs xs, rfl, hb, heap_alloc_new w _, Nat.le_refl _, hm, by simp [longs_size], by rw [longs_toList]; exact List.take_of_length_le (by simp [lcells])⟩⟩

section
variable {P : Program}
/-- append(s, x...) onto a slice of the call's own, whatever the other one (nil, too). -/
theorem wpList_append_u {ops : Array Oper} {rest : List Oper} {o : Oper} {a : Act} {w : World} {Q : Exit → Act → World → Prop} (hgd : o.guard = none) (s x : Operand) (T E : TypeId)
    (ho : o.op = .call { callee := .builtin .append, args := #[s, x], argTypes := #[T, T] }) (ht : P.underlying T = some (.slice E))
    (hi : (P.info? E).map (fun i => (i.zero, i.size, i.bytes)) = some (some (.int .u64 0), 1, 8)) (base : Nat)
    (v : Value) (xs : List (Nat)) (hown : OwnU E base w v xs) (hs : a.eval s = v) (u : Value) (ys : List (Nat)) (hsl : SlU w u ys) (hx : a.eval x = u)
    (hlen : xs.length + ys.length ≤ 100000000) (hbase : base ≤ w.heap.size)
    (h : ∀ v' w', OwnU E base w' v' (xs ++ ys) → w.grownBy w' v.ownBlock → True → wpList P ops Q rest (a.put o.dst v') w') : wpList P ops Q (o :: rest) a w := by
  obtain ⟨i, hi0, hz, hsz, hby⟩ := info_parts hi
  have hm : xs.length + ys.length ≤ maxLen := by unfold maxLen; omega
  rcases hsl with ⟨⟨_ | ad, rfl⟩, rfl⟩ | ⟨b, off, cap, rfl, h1, h2, h3, h4⟩
  · refine wpList_append_own_none hgd s x T ho base E i 1 ht hi0 v xs.length (lcells xs) hs hown hx ?_
    exact h v w (by simpa using hown) ⟨rfl, rfl, rfl, Nat.le_refl _, fun _ _ _ => rfl⟩ trivial
  · refine wpList_append_own w hgd s x T ho base E i (.int .u64 0) 1 8 ht hi0 hz hsz hby rfl (by decide) v xs.length (lcells xs) hs hown ad 0 0 [] hx rfl (by simp) (by simp) (by simpa using hm) (by omega) hbase ?_
    intro v' w' ho' hg' hn'
    exact h v' w' (by simpa [OwnU] using ho') hg' trivial
  · refine wpList_append_own w hgd s x T ho base E i (.int .u64 0) 1 8 ht hi0 hz hsz hby rfl (by decide) v xs.length (lcells xs) hs hown ⟨b, off, none⟩ ys.length cap (lcells ys) hx (by simp [lcells]) ?_ (lcells_one ys) hm (by omega) hbase ?_
    · intro j y hj
      have hlt : j < ys.length := by
        rw [← lcells_length]
        exact (List.getElem?_eq_some_iff.1 hj).1
      rw [lcells_get? ys j hlt] at hj
      obtain rfl : longV (ys.getD j 0) = y := by simpa using hj
      have hadd : (⟨b, off, none⟩ : Addr).add j = ⟨b, off + j, none⟩ := by unfold Addr.add; split <;> simp_all
      rw [hadd]
      exact h4 j hlt
    · intro v' w' ho' hg' hn'
      refine h v' w' ?_ hg' trivial
      simpa [OwnU, lcells_append] using ho'
end
end Go.Proofs.YtnoilogepkelaaaDoor
