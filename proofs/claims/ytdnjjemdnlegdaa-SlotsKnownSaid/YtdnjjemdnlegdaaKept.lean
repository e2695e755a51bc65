/-
  A frame: nothing old is changed but some blocks.
-/
import Derived.Test.YtdnjjemdnlegdaaSl
import Derived.Laws.CopyOwn
import Derived.Laws.MakeOwn
import Derived.Laws.Tables
namespace Go.Proofs.Ytdnjjemdnlegdaa
set_option linter.unusedVariables false
set_option linter.unusedSimpArgs false
open Go Go.RowKit

def Kept (l : List Nat) (w w' : World) : Prop :=
  w'.os = w.os ∧ w'.tape = w.tape ∧ w'.output = w.output ∧ w.heap.size ≤ w'.heap.size ∧ ∀ k, k < w.heap.size → k ∉ l → w'.heap[k]? = w.heap[k]?
theorem Kept.refl (l : List Nat) (w : World) : Kept l w w := ⟨rfl, rfl, rfl, Nat.le_refl _, fun _ _ _ => rfl⟩
theorem Kept.size {l : List Nat} {w w' : World} (h : Kept l w w') : w.heap.size ≤ w'.heap.size := h.2.2.2.1
theorem Kept.block {l : List Nat} {w w' : World} (h : Kept l w w') (k : Nat) (hk : k < w.heap.size) (hl : k ∉ l) : w'.heap[k]? = w.heap[k]? := h.2.2.2.2 k hk hl
theorem Kept.trans {l : List Nat} {a b c : World} (h : Kept l a b) (h' : Kept l b c) : Kept l a c :=
  ⟨h'.1.trans h.1, h'.2.1.trans h.2.1, h'.2.2.1.trans h.2.2.1, Nat.le_trans h.size h'.size, fun k hk hl => (h'.block k (Nat.lt_of_lt_of_le hk h.size) hl).trans (h.block k hk hl)⟩
theorem Kept.mono {l l' : List Nat} {a b : World} (h : Kept l a b) (hl : ∀ k, k ∈ l → k ∈ l') : Kept l' a b :=
  ⟨h.1, h.2.1, h.2.2.1, h.size, fun k hk hn => h.block k hk (fun hm => hn (hl k hm))⟩
theorem Kept.ofBelow {l : List Nat} {w w' : World} {B : Nat} (h : Below B w w') (hB : w.heap.size ≤ B) : Kept l w w' := ⟨h.os, h.tape, h.output, h.size, fun k hk _ => h.block k (Nat.lt_of_lt_of_le hk hB)⟩
theorem Kept.toBelow {l : List Nat} {w w' : World} {B : Nat} (h : Kept l w w') (hl : ∀ k, k ∈ l → B ≤ k) (hB : B ≤ w.heap.size) : Below B w w' :=
  ⟨h.1, h.2.1, h.2.2.1, h.size, fun k hk => h.block k (by omega) (fun hm => by have := hl k hm; omega)⟩
theorem Kept.setCell {l : List Nat} {w w' : World} (h : Kept l w w') {b o : Nat} {s : Option Nat} (hb : b ∈ l) (v : Value) : Kept l w (w'.setCell ⟨b, o, s⟩ v) :=
  ⟨h.1, h.2.1, h.2.2.1, by simpa [World.setCell] using h.size, fun k hk hl => (heap_setCell_other w' ⟨b, o, s⟩ k v (by intro e; subst e; exact hl hb)).trans (h.block k hk hl)⟩
theorem Kept.setRow {l : List Nat} {w w' : World} (h : Kept l w w') {b : Nat} (hb : b ∈ l) (c : Array Value) : Kept l w (w'.setRow b c) :=
  ⟨h.1, h.2.1, h.2.2.1, by simpa using h.size, fun k hk hl => (setRow_other w' b k c (by intro e; subst e; exact hl hb)).trans (h.block k hk hl)⟩
theorem Kept.alloc {l : List Nat} {w w' : World} (h : Kept l w w') (o : Obj) : Kept l w (w'.alloc o) :=
  h.trans (Kept.ofBelow ((Below.refl _ w').alloc (Nat.le_refl _) o) (Nat.le_refl _))
theorem Kept.drew {l : List Nat} {w w' : World} (h : Kept l w w') : Kept l w w'.drew := h
theorem Kept.drewN {l : List Nat} {w w' : World} (h : Kept l w w') (n : Nat) : Kept l w (w'.drewN n) := h
theorem Kept.newCell {l : List Nat} {w w' : World} (h : Kept l w w') {b o : Nat} {s : Option Nat} (hb : w.heap.size ≤ b) (v : Value) : Kept l w (w'.setCell ⟨b, o, s⟩ v) :=
  ⟨h.1, h.2.1, h.2.2.1, by simpa [World.setCell] using h.size, fun k hk hl => (heap_setCell_other w' ⟨b, o, s⟩ k v (by intro e; subst e; exact absurd hk (by simpa using hb))).trans (h.block k hk hl)⟩
theorem Kept.grown {l : List Nat} {a w w' : World} {row : Option Nat} (h : Kept l a w) (hg : w.grownBy w' row) (hr : ∀ k, row = some k → k ∈ l ∨ a.heap.size ≤ k) : Kept l a w' :=
  ⟨hg.os.trans h.1, hg.tape.trans h.2.1, hg.output.trans h.2.2.1, Nat.le_trans h.size hg.size, fun k hk hl => (hg.block k (Nat.lt_of_lt_of_le hk h.size) (by
    intro e
    rcases hr k e.symm with h1 | h1
    · exact hl h1
    · omega)).trans (h.block k hk hl)⟩
theorem Kept.cell {l : List Nat} {w w' : World} (h : Kept l w w') (b o : Nat) (hb : b < w.heap.size) (hl : b ∉ l) : w'.cell? ⟨b, o, none⟩ = w.cell? ⟨b, o, none⟩ := World.cell?_of_block (a := ⟨b, o, none⟩) (h.block b hb hl)

theorem SlB.kept {l : List Nat} {w w' : World} {g off len cap : Nat} {xs : List (BitVec 8)} (h : SlB w (.slice (some ⟨g, off, none⟩) len cap) xs) (hk : Kept l w w') (hl : g ∉ l) : SlB w' (.slice (some ⟨g, off, none⟩) len cap) xs := by
  rcases h with ⟨h, rfl⟩ | ⟨b', off', cap', h, h1, h2, h3, h4⟩
  · exact .inl ⟨h, rfl⟩
  · simp only [Value.slice.injEq, Option.some.injEq, Addr.mk.injEq] at h
    obtain ⟨⟨rfl, rfl, _⟩, rfl, rfl⟩ := h
    refine .inr ⟨g, off, cap, rfl, h1, h2, Nat.lt_of_lt_of_le h3 hk.size, fun j hj => ?_⟩
    rw [hk.cell g (off + j) h3 hl]
    exact h4 j hj
/-- A slice that lies apart from the blocks of a frame. -/
theorem SlB.keptV {l : List Nat} {w w' : World} {v : Value} {xs : List (BitVec 8)} (h : SlB w v xs) (hk : Kept l w w') (hl : ∀ k, v.ownBlock = some k → k ∉ l) : SlB w' v xs := by
  rcases h with h | ⟨b, off, cap, rfl, h1, h2, h3, h4⟩
  · exact .inl h
  · exact SlB.kept (.inr ⟨b, off, cap, rfl, h1, h2, h3, h4⟩) hk (hl b rfl)

/-- What a call owns, apart from the blocks of a frame. -/
theorem OwnB.keptV2 {E base : Nat} {l : List Nat} {w w' : World} {v : Value} {xs : List (BitVec 8)} (h : OwnB E base w v xs) (hk : Kept l w w') (hl : ∀ k, k ∈ l → k < base) : OwnB E base w' v xs := by
  refine ⟨h.1, ?_⟩
  rcases h.2 with hn | ⟨g, cap, cur, rfl, h1, hb, h2⟩
  · exact .inl hn
  · refine .inr ⟨g, cap, cur, rfl, h1, ?_, h2⟩
    rw [hk.block g (Array.getElem?_eq_some_iff.1 hb).1 (fun hm => by have := hl g hm; omega)]
    exact hb

theorem splice_map {α β : Type} (f : α → β) (L : List α) (off : Nat) (cs : List α) : (splice L off cs).map f = splice (L.map f) off (cs.map f) := by
  simp [splice, List.map_take, List.map_drop]
theorem bytes_splice (L : List (BitVec 8)) (rest : List Value) (off : Nat) (cs : List (BitVec 8)) (h : off + cs.length ≤ L.length) :
    (bcells (splice L off cs) ++ rest).toArray = ((bcells L ++ rest).toArray.toList.take off ++ (bcells cs ++ (bcells L ++ rest).toArray.toList.drop (off + (bcells cs).length))).toArray := by
  have e : bcells (splice L off cs) = (bcells L).take off ++ (bcells cs ++ (bcells L).drop (off + cs.length)) := by
    simp only [bcells, splice_map]
    simp [splice]
  rw [e, bcells_length]
  congr 1
  rw [List.take_append_of_le_length (by rw [bcells_length]; omega), List.drop_append_of_le_length (by rw [bcells_length]; omega)]
  simp

section
variable {P : Program}
/-- copy(d, s): bytes into a block known whole. -/
theorem wpList_copy_b {ops : Array Oper} {rest : List Oper} {o : Oper} {a : Act} {w : World} {Q : Exit → Act → World → Prop} (hgd : o.guard = none) (d s : Operand) (T E : TypeId)
    (ho : o.op = .call { callee := .builtin .copy, args := #[d, s], argTypes := #[T, T] }) (hu : P.underlying T = some (.slice E)) (hsz : (P.info? E).map (·.size) = some 1)
    (g off dLen dCap : Nat) (u : Value) (ys : List (BitVec 8)) (hd : a.eval d = .slice (some ⟨g, off, none⟩) dLen dCap) (hs : a.eval s = u) (hsl : SlB w u ys)
    (L : List (BitVec 8)) (tl : List Value) (t : TypeId) (hg : w.heap[g]? = some (.cells (bcells L ++ tl).toArray t (0, 0))) (hfit : off + dLen ≤ L.length)
    (h : wpList P ops Q rest (a.put o.dst (goInt (Nat.min ys.length dLen))) (w.setRow g (bcells (splice L off (ys.take dLen)) ++ tl).toArray)) : wpList P ops Q (o :: rest) a w := by
  by_cases h0 : Nat.min ys.length dLen = 0
  · have hn : ys.take dLen = [] := by
      apply List.eq_nil_of_length_eq_zero
      rw [List.length_take, Nat.min_comm]
      exact h0
    obtain ⟨sa, cap, hu'⟩ := hsl.len
    refine wpList_copy_nothing hgd d s T T ho E hu hsz (some ⟨g, off, none⟩) sa dLen dCap ys.length cap hd (by rw [hs, hu']) h0 ?_
    rw [hn, show splice L off [] = L by simp [splice], setRow_self _ _ _ _ _ hg, h0] at h
    exact h
  · rcases hsl with ⟨_, rfl⟩ | ⟨b, off', cap, rfl, h1, h2, h3, h4⟩
    · simp at h0
    · have hlen : (bcells (ys.take dLen)).length = Nat.min ys.length dLen := by
        rw [bcells_length, List.length_take]
        exact Nat.min_comm _ _
      refine wpList_copy_own hgd d s T T ho E hu hsz g off dLen dCap ⟨b, off', none⟩ ys.length cap hd hs (bcells L ++ tl).toArray t hg (bcells (ys.take dLen)) hlen ?_ ?_ (bcells_one _) ?_
      · intro j v hj
        have hlt : j < (ys.take dLen).length := by
          rw [← bcells_length]
          exact (List.getElem?_eq_some_iff.1 hj).1
        rw [bcells_get? _ j hlt] at hj
        obtain rfl : byteV ((ys.take dLen).getD j 0) = v := by simpa using hj
        have hadd : (⟨b, off', none⟩ : Addr).add j = ⟨b, off' + j, none⟩ := by unfold Addr.add; split <;> simp_all
        have hj' : j < ys.length := by
          rw [List.length_take] at hlt
          omega
        have hjd : j < dLen := by
          rw [List.length_take] at hlt
          omega
        rw [hadd, h4 j hj']
        simp [hjd]
      · rw [hlen]
        simp only [List.size_toArray, List.length_append, bcells_length]
        have : Nat.min ys.length dLen ≤ dLen := Nat.min_le_right _ _
        omega
      · rw [hlen, ← hlen, ← bytes_splice L tl off _ (by rw [List.length_take]; omega), hlen]
        exact h
end
end Go.Proofs.Ytdnjjemdnlegdaa
