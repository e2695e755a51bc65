/-
  hmac.block: a key's block, each byte changed.
-/
import Derived.Test.YtnoilogepkelaaaDoorHmaS
import Derived.Test.YtnoilogepkelaaaDoorShaD
import Derived.Test.YtnoilogepkelaaaDoorConst
import Derived.Deep.DeepCutAuto
namespace Go.Proofs.YtnoilogepkelaaaDoor
set_option linter.unusedVariables false
set_option linter.unusedSimpArgs false
open Go Go.RowKit
attribute [local go_sem] u8_xor'

/-- A block whose first n bytes are changed. -/
def Hma.byN (x : BitVec 8) (b : List (BitVec 8)) (n : Nat) : List (BitVec 8) := (b.take n).map (· ^^^ x) ++ b.drop n
theorem Hma.byN_zero (x : BitVec 8) (b : List (BitVec 8)) : Hma.byN x b 0 = b := by simp [Hma.byN]
theorem Hma.byN_all (x : BitVec 8) (b : List (BitVec 8)) (n : Nat) (h : b.length = n) : Hma.byN x b n = Hma.by_ x b := by
  simp [Hma.byN, Hma.by_, List.take_of_length_le (show b.length ≤ n by omega), List.drop_of_length_le (show b.length ≤ n by omega)]
theorem Hma.byN_length (x : BitVec 8) (b : List (BitVec 8)) (n : Nat) : (Hma.byN x b n).length = b.length := by
  simp [Hma.byN]; omega
theorem Hma.byN_at (x : BitVec 8) (b : List (BitVec 8)) (n : Nat) (h : n < b.length) : (Hma.byN x b n).getD n 0 = b.getD n 0 := by
  have h1 : ((b.take n).map (· ^^^ x)).length = n := by simp; omega
  rw [Hma.byN, List.getD, List.getElem?_append_right (by omega), h1, Nat.sub_self, List.getElem?_drop, Nat.add_zero]
  rfl
theorem Hma.byN_set (x : BitVec 8) (b : List (BitVec 8)) (n : Nat) (h : n < b.length) : (Hma.byN x b n).set n (b.getD n 0 ^^^ x) = Hma.byN x b (n + 1) := by
  have h1 : ((b.take n).map (· ^^^ x)).length = n := by simp; omega
  have e : b.drop n = b[n] :: b.drop (n + 1) := List.drop_eq_getElem_cons h
  unfold Hma.byN
  rw [List.set_append_right _ _ (by omega), h1, Nat.sub_self, e, List.set_cons_zero, List.take_succ_eq_append_getElem h, List.map_append, List.append_assoc]
  simp only [List.getD, List.getElem?_eq_getElem h, Option.getD_some, List.map_cons, List.map_nil, List.cons_append, List.nil_append]

/-- What block holds between its rounds. -/
structure BlkI (w : World) (O R : Nat) (b : List (BitVec 8)) (wr : World) : Prop where
  lt : w.heap.size ≤ O ∧ O < R ∧ R < wr.heap.size
  out : wr.heap[O]? = some (.cells (bytes (List.replicate 64 0)) 29 (0, 0))
  row : wr.heap[R]? = some (.cells (bytes b) 29 (0, 0))
  below : Below w.heap.size w wr
theorem BlkI.setR {w : World} {O R : Nat} {b : List (BitVec 8)} {wr : World} (h : BlkI w O R b wr) (p : Nat) (x : BitVec 8) : BlkI w O R (b.set p x) (wr.setCell ⟨R, p, none⟩ (.int .u8 (bv x))) := by
  have hl := h.lt
  refine ⟨⟨h.lt.1, h.lt.2.1, by simpa [World.setCell] using h.lt.2.2⟩, (heap_setCell_other _ _ _ _ (by simp; omega)).trans h.out, ?_, h.below.setCell (p := ⟨R, p, none⟩) (by simp; omega) _⟩
  have h2 := heap_setCell_same wr R p _ _ (.int .u8 (bv x)) h.row
  rwa [bytes_set] at h2

set_option maxRecDepth 100000 in
set_option maxHeartbeats 4000000 in
theorem block_any (key : List (BitVec 8)) (x : BitVec 8) (v : Value) (w : World) (hs : SlB w v key) (hl : key.length ≤ 50000000) (hG : Glob w) :
    Calls Tryd.prog 72 #[v, .int .u8 (bv x)] w fun e w' => e = .returned (.agg (bytes (Hma.by_ x (Hma.kblock key)))) ∧ Below w.heap.size w w' := by
  obtain ⟨a, cap, rfl⟩ := hs.len
  have hgz := hG.size
  have HSU := Lib.hid (fun W (hB : Below w.heap.size w W) => sum_any key _ W (hs.below hB (Nat.le_refl _)) hl (hG.below hB hgz))
  have HIH := Lib.hid (show (Tryd.prog.info? 32).map (·.size) = some (bytes (Sha.sum key)).size by rw [bytes_size, Sha.sum_length]; kernel_rfl)
  have HIB := Lib.hid (fun (xs : List (BitVec 8)) (h : xs.length = 64) => (show (Tryd.prog.info? 29).map (·.size) = some (bytes xs).size by rw [bytes_size, h]; kernel_rfl))
  have HS := Lib.hid hs
  have hsh : Hma.short key = if 64 < key.length then Sha.sum key else key := rfl
  have HKB := Lib.hid (Hma.kblock_length key)
  have hkb : Hma.kblock key = Hma.short key ++ List.replicate (64 - (Hma.short key).length) 0 := rfl
  have hshl := Hma.short_length key
  have HKE := Lib.hid (show (Hma.short key).take (List.replicate 64 (0 : BitVec 8)).length ++ (List.replicate 64 (0 : BitVec 8)).drop (Hma.short key).length = Hma.kblock key by
    rw [List.length_replicate, List.take_of_length_le hshl, List.drop_replicate]; rfl)
  have HSH := Lib.hid hsh
  have HSL := Lib.hid (Sha.sum_length key)
  obtain ⟨S, hSv⟩ : ∃ S, Sha.sum key = S := ⟨_, rfl⟩
  rw [hSv] at HSU HIH HSH HSL
  obtain ⟨n, hn⟩ : ∃ n, key.length = n := ⟨_, rfl⟩
  rw [hn] at HSU HS HSH ⊢
  clear hs hG hsh hkb hSv hn hshl
  go_enter Tryd.func72, Tryd.ntmps72
  go_upto_region 2 with fail
  obtain ⟨X, hX, hBX, hXs, hX0, hX1⟩ := alloc2 w (.cells (bytes (List.replicate 64 0)) 29) (.cells (bytes (List.replicate 64 0)) 29)
  rw [show (w.alloc (.cells #[.int .u8 0, .int .u8 0, .int .u8 0, .int .u8 0, .int .u8 0, .int .u8 0, .int .u8 0, .int .u8 0, .int .u8 0, .int .u8 0, .int .u8 0, .int .u8 0, .int .u8 0, .int .u8 0, .int .u8 0, .int .u8 0, .int .u8 0, .int .u8 0, .int .u8 0, .int .u8 0, .int .u8 0, .int .u8 0, .int .u8 0, .int .u8 0, .int .u8 0, .int .u8 0, .int .u8 0, .int .u8 0, .int .u8 0, .int .u8 0, .int .u8 0, .int .u8 0, .int .u8 0, .int .u8 0, .int .u8 0, .int .u8 0, .int .u8 0, .int .u8 0, .int .u8 0, .int .u8 0, .int .u8 0, .int .u8 0, .int .u8 0, .int .u8 0, .int .u8 0, .int .u8 0, .int .u8 0, .int .u8 0, .int .u8 0, .int .u8 0, .int .u8 0, .int .u8 0, .int .u8 0, .int .u8 0, .int .u8 0, .int .u8 0, .int .u8 0, .int .u8 0, .int .u8 0, .int .u8 0, .int .u8 0, .int .u8 0, .int .u8 0, .int .u8 0] 29)).alloc (.cells #[.int .u8 0, .int .u8 0, .int .u8 0, .int .u8 0, .int .u8 0, .int .u8 0, .int .u8 0, .int .u8 0, .int .u8 0, .int .u8 0, .int .u8 0, .int .u8 0, .int .u8 0, .int .u8 0, .int .u8 0, .int .u8 0, .int .u8 0, .int .u8 0, .int .u8 0, .int .u8 0, .int .u8 0, .int .u8 0, .int .u8 0, .int .u8 0, .int .u8 0, .int .u8 0, .int .u8 0, .int .u8 0, .int .u8 0, .int .u8 0, .int .u8 0, .int .u8 0, .int .u8 0, .int .u8 0, .int .u8 0, .int .u8 0, .int .u8 0, .int .u8 0, .int .u8 0, .int .u8 0, .int .u8 0, .int .u8 0, .int .u8 0, .int .u8 0, .int .u8 0, .int .u8 0, .int .u8 0, .int .u8 0, .int .u8 0, .int .u8 0, .int .u8 0, .int .u8 0, .int .u8 0, .int .u8 0, .int .u8 0, .int .u8 0, .int .u8 0, .int .u8 0, .int .u8 0, .int .u8 0, .int .u8 0, .int .u8 0, .int .u8 0, .int .u8 0] 29) = X from hX]
  have hI : BlkI w w.heap.size (w.heap.size + 1) (List.replicate 64 0) X := ⟨⟨Nat.le_refl _, by omega, by omega⟩, hX0, hX1, hBX⟩
  have HI := Lib.hid hI
  have HSX := Lib.hid (HS.out.below hBX (Nat.le_refl _))
  clear hX hBX hXs hX0 hX1 hI
  generalize w.heap.size + 1 = R at *
  go_upto_if 10 with (fail)
  go_cut [0] (fun s0 wx => ∃ u : Value, s0 = u ∧ Hid (SlB wx u (Hma.short key)) ∧ Hid (BlkI w w.heap.size R (List.replicate 64 0) wx))
  case first =>
    by_cases h : 64 < n
    · have h' : (64 : Int) < (n : Int) := by omega
      rw [if_pos h] at HSH
      go_wp2_with (first
        | (go_at_call 27; refine (HSU.out _ HI.out.below).mono ?_; rintro e w2 ⟨rfl, hb⟩; have HB2 := Lib.hid hb; clear hb)
        | (refine wpList_store_row rfl 32 (.tmp 6) (.tmp 12) rfl _ _ rfl rfl _ _ (heap_alloc_new _ _) HIH.out (by rw [bytes_size, HSL.out]; rfl) (bytes_one _) ?_; rw [World.setRow_alloc_new]))
      obtain ⟨Y, hY, hBY, hYs, hY0⟩ := alloc1 w2 (.cells (bytes S) 32)
      rw [hY]
      have hz2 := HB2.out.size
      have hlt := HI.out.lt
      have hsl := SlB.ofRow (w := Y) (b := w2.heap.size) (n := 32) (cap := 32) (C := bytes S) (xs := S) (bytes_toList _) HSL.out.symm (by omega) (fun j => cell_of_row Y _ j _ _ _ hY0) (by rw [HSL.out]; omega) (by decide)
      have hbY : Below X.heap.size X Y := HB2.out.trans (hBY.mono hz2)
      have hI2 : BlkI w w.heap.size R (List.replicate 64 0) Y := ⟨⟨Nat.le_refl _, hlt.2.1, by have := hbY.size; omega⟩, (hbY.block _ (by omega)).trans HI.out.out, (hbY.block _ hlt.2.2).trans HI.out.row, HI.out.below.trans (hbY.mono HI.out.below.size)⟩
      have HI2 := Lib.hid hI2
      have HSY := Lib.hid hsl
      clear hY hBY hYs hY0 hz2 hlt hsl hbY hI2
      go_meet
      case rel => exact ⟨_, rfl, by rw [HSH.out]; exact HSY, HI2⟩
    · have h' : ¬ (64 : Int) < (n : Int) := by omega
      rw [if_neg h] at HSH
      go_wp2
      go_meet
      case rel => exact ⟨_, rfl, by rw [HSH.out]; exact HSX, HI⟩
  case rest =>
    clear HI HSX HS HSU HSH
    obtain ⟨u, rfl, HSX, HI⟩ := hcut
    have hlt := HI.out.lt
    go_upto_region 6 with (refine wpList_copy_arr rfl (.tmp 14) (.tmp 15) 22 5 rfl Tryd.underlying22 (by kernel_rfl) R 64 64 _ _ rfl rfl HSX.out (List.replicate 64 0) 29 HI.out.row rfl ?_; rw [HKE.out])
    have hK := (Kept.refl [R] wc).setRow (b := R) (by simp) (bytes (Hma.kblock key))
    have hI2 : BlkI w w.heap.size R (Hma.byN x (Hma.kblock key) 0) (wc.setRow R (bytes (Hma.kblock key))) := by
      rw [Hma.byN_zero]
      exact ⟨⟨Nat.le_refl _, hlt.2.1, by have := hK.size; omega⟩, (hK.block _ (by omega) (by simp; omega)).trans HI.out.out, setRow_heap _ _ _ _ _ _ HI.out.row, HI.out.below.trans (hK.toBelow (by simp; omega) HI.out.below.size)⟩
    have HI2 := Lib.hid hI2
    generalize wc.setRow R (bytes (Hma.kblock key)) = Z at *
    clear hK hI2 HI HSX hlt
    go_wp2
    go_loopw [17] (fun s wr => ∃ i : Nat, i ≤ 64 ∧ s = .int .i64 i ∧ Hid (BlkI w w.heap.size R (Hma.byN x (Hma.kblock key) i) wr)) (fun s _ => 64 - (intOf s).toNat)
    case atStart => exact ⟨0, by omega, rfl, HI2⟩
    case round =>
      clear HI2
      obtain ⟨i, hi, rfl, HI⟩ := hrel
      by_cases hlt : i < 64
      · have c0 := (cell_of_row wr R i _ _ _ HI.out.row).trans (bytes_get? _ i (by rw [Hma.byN_length, HKB.out]; exact hlt))
        have f0 := frozen_of_row wr R i _ _ HI.out.row
        have hn := HI.out.setR i ((Hma.kblock key).getD i 0 ^^^ x)
        rw [Hma.byN_set _ _ _ (by rw [HKB.out]; exact hlt)] at hn
        rw [Hma.byN_at _ _ _ (by rw [HKB.out]; exact hlt)] at c0
        generalize (Hma.kblock key).getD i 0 = y at c0 hn
        have HN := Lib.hid hn
        clear hn
        go_wp2
        exact ⟨⟨i + 1, by omega, by go_num, HN⟩, by simp [intOf]; omega⟩
      · obtain rfl : i = 64 := by omega
        rw [Hma.byN_all _ _ _ HKB.out] at HI
        have hll := Lib.hid (show (Hma.by_ x (Hma.kblock key)).length = 64 by simp [Hma.by_, HKB.out])
        have hlt := HI.out.lt
        go_wp2_with (first
          | (refine wpList_load_row rfl 29 (.tmp 5) rfl R rfl _ _ _ _ HI.out.row Tryd.underlying29 rfl (HIB.out _ hll.out) ?_)
          | (refine wpList_store_row rfl 29 (.tmp 4) (.tmp 27) rfl w.heap.size _ rfl rfl _ _ HI.out.out (HIB.out _ hll.out) (by rw [bytes_size, bytes_size, hll.out]; rfl) (bytes_one _) ?_))
        exact bodyPost_ret (results_cell_row Tryd.results72 _ _ w.heap.size _ _ _ _ rfl (setRow_heap _ _ _ _ _ _ HI.out.out) Tryd.underlying29 rfl (HIB.out _ hll.out)) rfl ⟨rfl, HI.out.below.trans (((Kept.refl [w.heap.size] wr).setRow (by simp) _).toBelow (B := w.heap.size) (by simp) HI.out.below.size)⟩
end Go.Proofs.YtnoilogepkelaaaDoor
