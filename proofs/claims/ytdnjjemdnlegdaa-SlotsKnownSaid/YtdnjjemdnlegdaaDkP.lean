/-
  A disk in memory.
-/
import Derived.Test.YtdnjjemdnlegdaaKept
import Derived.Test.YtdnjjemdnlegdaaDkS
import Derived.Test.YtdnjjemdnlegdaaLibC
namespace Go.Proofs.Ytdnjjemdnlegdaa
set_option linter.unusedVariables false
set_option linter.unusedSimpArgs false
open Go Go.RowKit

def dcells (g : Nat) (d : Dk.D) : List Value :=
  [.slice (some ⟨g, 0, none⟩) d.b.length d.cap, .bool d.off, .int .i64 d.left] ++ (bcells d.mask ++ [.int .i64 d.writes])
theorem dcells_length (g : Nat) (d : Dk.D) (h : d.mask.length = 16) : (dcells g d).length = 20 := by simp [dcells, bcells, h]

/-- The disk d lies in block p, its bytes in block g. -/
structure DiskAt (w : World) (p g : Nat) (d : Dk.D) : Prop where
  row : w.heap[p]? = some (.cells (dcells g d).toArray 46 (0, 0))
  data : w.heap[g]? = some (.cells (bcells d.b ++ d.rest).toArray 5 (0, 0))
  ne : g ≠ p
  ok : Dk.Ok d

theorem DiskAt.ltp {w : World} {p g : Nat} {d : Dk.D} (h : DiskAt w p g d) : p < w.heap.size := (Array.getElem?_eq_some_iff.1 h.row).1
theorem DiskAt.ltg {w : World} {p g : Nat} {d : Dk.D} (h : DiskAt w p g d) : g < w.heap.size := (Array.getElem?_eq_some_iff.1 h.data).1
theorem DiskAt.c {w : World} {p g : Nat} {d : Dk.D} (h : DiskAt w p g d) (j : Nat) (v : Value) (hj : (dcells g d)[j]? = some v) : w.cell? ⟨p, j, none⟩ = some v := by
  rw [cell_of_row w p j _ _ _ h.row]
  simpa using hj
theorem DiskAt.c0 {w : World} {p g : Nat} {d : Dk.D} (h : DiskAt w p g d) : w.cell? ⟨p, 0, none⟩ = some (.slice (some ⟨g, 0, none⟩) d.b.length d.cap) := h.c 0 _ rfl
theorem DiskAt.c1 {w : World} {p g : Nat} {d : Dk.D} (h : DiskAt w p g d) : w.cell? ⟨p, 1, none⟩ = some (.bool d.off) := h.c 1 _ rfl
theorem DiskAt.c2 {w : World} {p g : Nat} {d : Dk.D} (h : DiskAt w p g d) : w.cell? ⟨p, 2, none⟩ = some (.int .i64 d.left) := h.c 2 _ rfl
theorem DiskAt.c3 {w : World} {p g : Nat} {d : Dk.D} (h : DiskAt w p g d) (j : Nat) (hj : j < 16) : w.cell? ⟨p, 3 + j, none⟩ = some (.int .u8 (bv (d.mask.getD j 0))) := h.c _ _ (by
  rw [dcells, List.getElem?_append_right (by simp), show 3 + j - [Value.slice (some ⟨g, 0, none⟩) d.b.length d.cap, .bool d.off, .int .i64 d.left].length = j by simp, List.getElem?_append_left (by rw [bcells_length, h.ok.mask]; exact hj)]
  exact bcells_get? _ j (by rw [h.ok.mask]; exact hj))
theorem DiskAt.c19 {w : World} {p g : Nat} {d : Dk.D} (h : DiskAt w p g d) : w.cell? ⟨p, 19, none⟩ = some (.int .i64 d.writes) := h.c _ _ (by
  rw [dcells, List.getElem?_append_right (by simp), List.getElem?_append_right (by simp [bcells, h.ok.mask])]
  simp [bcells, h.ok.mask])
theorem DiskAt.fr {w : World} {p g : Nat} {d : Dk.D} (h : DiskAt w p g d) (j : Nat) : w.frozen? ⟨p, j, none⟩ = false := frozen_of_row w p j _ _ h.row
theorem DiskAt.caps {w : World} {p g : Nat} {d : Dk.D} (h : DiskAt w p g d) : d.b.length ≤ d.cap ∧ d.cap ≤ 9223372036854775807 := by
  obtain ⟨n, _, h1, h2⟩ := h.ok.size
  have := h.ok.spare
  unfold Dk.D.cap
  omega
theorem DiskAt.byte {w : World} {p g : Nat} {d : Dk.D} (h : DiskAt w p g d) (j : Nat) (hj : j < d.b.length) : w.cell? ⟨g, j, none⟩ = some (.int .u8 (bv (d.b.getD j 0))) := by
  rw [cell_of_row w g j _ _ _ h.data, List.getElem?_toArray, List.getElem?_append_left (by rw [bcells_length]; exact hj)]
  exact bcells_get? _ j hj
theorem DiskAt.sl {w : World} {p g : Nat} {d : Dk.D} (h : DiskAt w p g d) : SlB w (.slice (some ⟨g, 0, none⟩) d.b.length d.cap) d.b :=
  .inr ⟨g, 0, d.cap, rfl, h.caps.1, by have := h.caps.2; unfold maxLen; omega, h.ltg, fun j hj => by rw [Nat.zero_add]; exact h.byte j hj⟩
theorem DiskAt.pos {w : World} {p g : Nat} {d : Dk.D} (h : DiskAt w p g d) : 128 ≤ d.b.length ∧ d.b.length ≤ 2097152 := by obtain ⟨n, _, h1, h2⟩ := h.ok.size; omega

theorem DiskAt.kept {w w' : World} {p g : Nat} {d : Dk.D} {l : List Nat} (h : DiskAt w p g d) (hk : Kept l w w') (hp : p ∉ l) (hg : g ∉ l) : DiskAt w' p g d :=
  ⟨(hk.block p h.ltp hp).trans h.row, (hk.block g h.ltg hg).trans h.data, h.ne, h.ok⟩
theorem DiskAt.below {w w' : World} {p g : Nat} {d : Dk.D} {B : Nat} (h : DiskAt w p g d) (hb : Below B w w') (hB : w.heap.size ≤ B) : DiskAt w' p g d :=
  h.kept (Kept.ofBelow (l := []) hb hB) (by simp) (by simp)
theorem DiskAt.drew {w : World} {p g : Nat} {d : Dk.D} (h : DiskAt w p g d) : DiskAt w.drew p g d := ⟨h.row, h.data, h.ne, h.ok⟩
theorem DiskAt.drewN {w : World} {p g : Nat} {d : Dk.D} (h : DiskAt w p g d) (n : Nat) : DiskAt (w.drewN n) p g d := ⟨h.row, h.data, h.ne, h.ok⟩

/-- A store into one of the disk's cells. -/
theorem DiskAt.setP {w : World} {p g : Nat} {d d' : Dk.D} (h : DiskAt w p g d) (j : Nat) (v : Value) (hd : (dcells g d).set j v = dcells g d') (hb : d'.b = d.b) (hr : d'.rest = d.rest) (ho : Dk.Ok d') : DiskAt (w.setCell ⟨p, j, none⟩ v) p g d' := by
  refine ⟨?_, ?_, h.ne, ho⟩
  · have := heap_setCell_same w p j _ _ v h.row
    rw [← hd]
    simpa using this
  · rw [heap_setCell_other _ _ _ _ (by simpa using h.ne), hb, hr]
    exact h.data
theorem DiskAt.setOff {w : World} {p g : Nat} {d : Dk.D} (h : DiskAt w p g d) (x : Bool) : DiskAt (w.setCell ⟨p, 1, none⟩ (.bool x)) p g { d with off := x } :=
  h.setP 1 _ rfl rfl rfl (h.ok.of_b rfl h.ok.mask h.ok.left0 h.ok.left1 rfl)
theorem DiskAt.setLeft {w : World} {p g : Nat} {d : Dk.D} (h : DiskAt w p g d) (x : Int) (h0 : -1 ≤ x) (h1 : x ≤ 9223372036854775807) : DiskAt (w.setCell ⟨p, 2, none⟩ (.int .i64 x)) p g { d with left := x } :=
  h.setP 2 _ rfl rfl rfl (h.ok.of_b rfl h.ok.mask h0 h1 rfl)
theorem DiskAt.setWrites {w : World} {p g : Nat} {d : Dk.D} (h : DiskAt w p g d) (x : Int) : DiskAt (w.setCell ⟨p, 19, none⟩ (.int .i64 x)) p g { d with writes := x } :=
  h.setP 19 _ (by
    simp only [dcells]
    rw [List.set_append_right _ _ (by simp), List.set_append_right _ _ (by simp [bcells, h.ok.mask])]
    simp [bcells, h.ok.mask, Dk.D.cap]) rfl rfl (h.ok.of_b rfl h.ok.mask h.ok.left0 h.ok.left1 rfl)
/-- The disk's bytes are others. -/
theorem DiskAt.setData {w : World} {p g : Nat} {d : Dk.D} (h : DiskAt w p g d) (b : List (BitVec 8)) (hb : b.length = d.b.length) : DiskAt (w.setRow g (bcells b ++ d.rest).toArray) p g { d with b := b } := by
  refine ⟨?_, setRow_heap w g _ _ _ _ h.data, h.ne, h.ok.of_b hb h.ok.mask h.ok.left0 h.ok.left1 rfl⟩
  rw [setRow_other w g p _ (fun e => h.ne e.symm), h.row]
  simp [dcells, Dk.D.cap, hb]
end Go.Proofs.Ytdnjjemdnlegdaa
