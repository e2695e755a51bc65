/-
  The document's sha: Start, Adds, r, s.
-/
import Derived.Test.YtnoilogepkelaaaDoorRsC
import Derived.Test.YtnoilogepkelaaaDoorRot
namespace Go.Proofs.YtnoilogepkelaaaDoor
set_option linter.unusedVariables false
set_option linter.unusedSimpArgs false
open Go Go.RowKit

theorem Rsh.starts_fill : fill (fun i => Rsh.root (Rsh.primes.getD i 0) 2) 0 8 8 = Sha.starts := by
  rw [fill_all]
  apply List.ext_getElem?
  intro j
  by_cases hj : j < 8
  · rw [List.getElem?_map, List.getElem?_range hj, Option.map_some, Rsh.starts_root j hj]
    have hl : Sha.starts.length = 8 := rfl
    simp [List.getD, hl, hj]
  · rw [List.getElem?_eq_none (by simp; omega), List.getElem?_eq_none (by show 8 ≤ j; omega)]
theorem Rsh.primes8 (i : Nat) (h : i < 8) : (Rsh.primes.take 8).getD i 0 = Rsh.primes.getD i 0 := by
  simp only [List.getD]
  rw [List.getElem?_take_of_lt h]

set_option maxRecDepth 100000 in
set_option maxHeartbeats 1000000 in
theorem rstart_any (w : World) : Calls Tryd.prog 30 #[] w fun e w' => e = .returned (.agg (words Sha.starts)) ∧ Below w.heap.size w w' := by
  have HP := Lib.hid (fun W => primes_any 8 8 (.inl ⟨rfl, rfl⟩) W)
  have HR := Lib.hid (fun p (hp : p ≤ 400) W => root_any p 2 2 (.inl ⟨rfl, rfl⟩) hp W)
  have HF := Lib.hid (fun j (h : j < 8) => fill_set (fun i => Rsh.root (Rsh.primes.getD i 0) 2) 0 8 j h)
  have HFL := Lib.hid (fun j (h : j ≤ 8) => fill_length (fun i => Rsh.root (Rsh.primes.getD i 0) 2) 0 8 j h)
  have HFZ := Lib.hid Rsh.starts_fill
  have HP8 := Lib.hid (fun i h => Rsh.primes8 i h)
  have HPL := Lib.hid Rsh.primes_le
  have HL8 := Lib.hid (show (Rsh.primes.take 8).length = 8 from rfl)
  have HIW := Lib.hid (fun (xs : List (BitVec 32)) (h : xs.length = 8) => (show (Tryd.prog.info? 26).map (·.size) = some (words xs).size by rw [words_size, h]; kernel_rfl))
  obtain ⟨F, hF⟩ : ∃ F : Nat → List (BitVec 32), ∀ j, fill (fun i => Rsh.root (Rsh.primes.getD i 0) 2) 0 8 j = F j := ⟨_, fun _ => rfl⟩
  simp only [hF] at HF HFL HFZ
  have hF0 : F 0 = List.replicate 8 0 := by rw [← hF, fill_zero]
  go_enter Tryd.func30, Tryd.ntmps30
  go_upto_region 2 with fail
  obtain ⟨X, hX, hBX, hXs, hX0, hX1⟩ := alloc2 w (.cells (words (List.replicate 8 0)) 26) (.cells (words (List.replicate 8 0)) 26)
  rw [show (w.alloc (.cells #[.int .u32 0, .int .u32 0, .int .u32 0, .int .u32 0, .int .u32 0, .int .u32 0, .int .u32 0, .int .u32 0] 26)).alloc (.cells #[.int .u32 0, .int .u32 0, .int .u32 0, .int .u32 0, .int .u32 0, .int .u32 0, .int .u32 0, .int .u32 0] 26) = X from hX]
  have HX := Lib.hid (And.intro hBX (And.intro hXs (And.intro hX0 hX1)))
  clear hX hBX hXs hX0 hX1 hF
  go_upto_region 3 with (go_at_call 65; refine (HP.out _).mono ?_; rintro e w1 ⟨v1, rfl, ho, hb⟩; have HO1 := Lib.hid ho; have HB1 := Lib.hid hb; clear ho hb)
  obtain ⟨g, cap, rfl, hgb, hgl, hgc, hsl⟩ := HO1.out.form 8 HL8.out (by omega)
  have hs := HX.out.2.1
  have hO := (HB1.out.block w.heap.size (by omega)).trans HX.out.2.2.1
  have hR := (HB1.out.block (w.heap.size + 1) (by omega)).trans HX.out.2.2.2
  rw [← hF0] at hR
  have HI := Lib.hid (show w1.heap[w.heap.size]? = some (.cells (words (List.replicate 8 0)) 26 (0, 0)) ∧ w1.heap[w.heap.size + 1]? = some (.cells (words (F 0)) 26 (0, 0)) ∧ SlU w1 (.slice (some ⟨g, 0, none⟩) 8 cap) (Rsh.primes.take 8) ∧ Below w.heap.size w w1 from ⟨hO, hR, hsl, HX.out.1.trans (HB1.out.mono (by omega))⟩)
  have hgR : w.heap.size + 1 < g := by omega
  clear hO hR hsl HO1 HB1 HX hF0 hgl
  go_wp2
  go_loopw [3] (fun s3 wr => ∃ i : Nat, i ≤ 8 ∧ s3 = .int .i64 i ∧ Hid (wr.heap[w.heap.size]? = some (.cells (words (List.replicate 8 0)) 26 (0, 0)) ∧ wr.heap[w.heap.size + 1]? = some (.cells (words (F i)) 26 (0, 0)) ∧ SlU wr (.slice (some ⟨g, 0, none⟩) 8 cap) (Rsh.primes.take 8) ∧ Below w.heap.size w wr)) (fun s3 _ => 8 - (intOf s3).toNat)
  case atStart => exact ⟨0, by omega, rfl, HI⟩
  case round =>
    clear HI
    obtain ⟨i, hi, rfl, HI⟩ := hrel
    by_cases hlt : i < 8
    · have c0 := HI.out.2.2.1.cell i (by rw [HL8.out]; exact hlt)
      rw [HP8.out i hlt] at c0
      unfold longV at c0
      rw [Nat.zero_add] at c0
      have c1 := (cell_of_row wr (w.heap.size + 1) i _ _ _ HI.out.2.1).trans (words_get? _ i (by rw [HFL.out i (by omega)]; exact hlt))
      have f1 := frozen_of_row wr (w.heap.size + 1) i _ _ HI.out.2.1
      have hpi := HPL.out i (by omega)
      have hset := HF.out i hlt
      generalize (F i).getD i 0 = z at c1
      obtain ⟨p, hp⟩ : ∃ p, Rsh.primes.getD i 0 = p := ⟨_, rfl⟩
      rw [hp] at c0 hpi hset
      have HRP := Lib.hid (fun W => HR.out p (by omega) W)
      obtain ⟨rt, hrt⟩ : ∃ rt, Rsh.root p 2 = rt := ⟨_, rfl⟩
      rw [hrt] at hset HRP
      have hn : (wr.setCell ⟨w.heap.size + 1, i, none⟩ (.int .u32 (wv rt))).heap[w.heap.size + 1]? = some (.cells (words (F (i + 1))) 26 (0, 0)) := by
        have h := heap_setCell_same wr (w.heap.size + 1) i _ _ (.int .u32 (wv rt)) HI.out.2.1
        rwa [words_set, hset] at h
      have HN := Lib.hid (show (wr.setCell ⟨w.heap.size + 1, i, none⟩ (.int .u32 (wv rt))).heap[w.heap.size]? = some (.cells (words (List.replicate 8 0)) 26 (0, 0)) ∧ (wr.setCell ⟨w.heap.size + 1, i, none⟩ (.int .u32 (wv rt))).heap[w.heap.size + 1]? = some (.cells (words (F (i + 1))) 26 (0, 0)) ∧ SlU (wr.setCell ⟨w.heap.size + 1, i, none⟩ (.int .u32 (wv rt))) (.slice (some ⟨g, 0, none⟩) 8 cap) (Rsh.primes.take 8) ∧ Below w.heap.size w (wr.setCell ⟨w.heap.size + 1, i, none⟩ (.int .u32 (wv rt))) from
        ⟨(heap_setCell_other _ _ _ _ (by simp)).trans HI.out.1, hn, HI.out.2.2.1.setCell (by omega) _, HI.out.2.2.2.setCell (p := ⟨w.heap.size + 1, i, none⟩) (by simp) _⟩)
      clear hn hset hp hrt hpi HF
      go_wp2_with (go_at_call 66; refine (HRP.out _).mono ?_; rintro e w' ⟨rfl, rfl⟩)
      exact ⟨⟨i + 1, by omega, by go_num, HN⟩, by simp [intOf]; omega⟩
    · obtain rfl : i = 8 := by omega
      rw [HFZ.out] at HI
      go_wp2_with (first
        | (refine wpList_load_row rfl 26 (.tmp 1) rfl (w.heap.size + 1) rfl _ _ _ _ HI.out.2.1 Tryd.underlying26 rfl (HIW.out _ rfl) ?_)
        | (refine wpList_store_row rfl 26 (.tmp 0) (.tmp 16) rfl w.heap.size _ rfl rfl _ _ HI.out.1 (HIW.out _ rfl) (by rfl) (words_one _) ?_))
      exact bodyPost_ret (results_cell_row Tryd.results30 _ _ w.heap.size _ _ _ _ rfl (setRow_heap _ _ _ _ _ _ HI.out.1) Tryd.underlying26 rfl (HIW.out _ rfl)) rfl ⟨rfl, HI.out.2.2.2.trans (((Kept.refl [w.heap.size] wr).setRow (by simp) _).toBelow (B := w.heap.size) (by simp) HI.out.2.2.2.size)⟩

def Rsh.addsN (k : Nat) : List (BitVec 32) := (List.range k).map fun i => Rsh.root (Rsh.primes.getD i 0) 3
theorem Rsh.addsN_succ (k : Nat) : Rsh.addsN (k + 1) = Rsh.addsN k ++ [Rsh.root (Rsh.primes.getD k 0) 3] := by simp [Rsh.addsN, List.range_succ]
theorem Rsh.addsN_length (k : Nat) : (Rsh.addsN k).length = k := by simp [Rsh.addsN]
theorem Rsh.addsN_all : Rsh.addsN 64 = Sha.adds := by
  apply List.ext_getElem?
  intro j
  by_cases hj : j < 64
  · rw [Rsh.addsN, List.getElem?_map, List.getElem?_range hj, Option.map_some, Rsh.adds_root j hj]
    have hl : Sha.adds.length = 64 := rfl
    simp [List.getD, hl, hj]
  · rw [List.getElem?_eq_none (by rw [Rsh.addsN_length]; omega), List.getElem?_eq_none (by show 64 ≤ j; omega)]

set_option maxRecDepth 100000 in
set_option maxHeartbeats 1000000 in
theorem radds_any (w : World) : Calls Tryd.prog 68 #[] w (RetW w Sha.adds) := by
  have HP := Lib.hid (fun W => primes_any 64 64 (.inr ⟨rfl, rfl⟩) W)
  have HR := Lib.hid (fun p (hp : p ≤ 400) W => root_any p 3 3 (.inr ⟨rfl, rfl⟩) hp W)
  rw [show Rsh.primes.take 64 = Rsh.primes from rfl] at HP
  have HPL := Lib.hid Rsh.primes_le
  have HL := Lib.hid (show Rsh.primes.length = 64 from rfl)
  have HS := Lib.hid Rsh.addsN_succ
  have HSL := Lib.hid Rsh.addsN_length
  have HSA := Lib.hid Rsh.addsN_all
  go_enter Tryd.func68, Tryd.ntmps68
  go_upto_region 3 with (go_at_call 65; refine (HP.out _).mono ?_; rintro e w1 ⟨v1, rfl, ho, hb⟩; have HO1 := Lib.hid ho; have HB1 := Lib.hid hb; clear ho hb)
  obtain ⟨g, cap, rfl, hgb, hgl, hgc, hsl⟩ := HO1.out.form 64 HL.out (by omega)
  have HSU := Lib.hid hsl
  have hz1 := HB1.out.size
  clear hsl HO1
  go_wp2
  go_loopw [1, 3] (fun s1 s3 wr => ∃ i : Nat, i ≤ 64 ∧ s3 = .int .i64 i ∧ Hid (OwnW 25 w1.heap.size wr s1 (Rsh.addsN i)) ∧ Hid (Below w1.heap.size w1 wr)) (fun _ s3 _ => 64 - (intOf s3).toNat)
  case atStart => exact ⟨0, by omega, rfl, OwnW.nil _ _ _, Below.refl _ _⟩
  case round =>
    obtain ⟨i, hi, rfl, HO, HB⟩ := hrel
    have hsz := HB.out.size
    by_cases hlt : i < 64
    · have c0 := (HSU.out.below HB.out (Nat.le_refl _)).cell i (by rw [HL.out]; exact hlt)
      unfold longV at c0
      rw [Nat.zero_add] at c0
      have hpi := HPL.out i hlt
      have hs := HS.out i
      obtain ⟨p, hp⟩ : ∃ p, Rsh.primes.getD i 0 = p := ⟨_, rfl⟩
      rw [hp] at c0 hpi hs
      have HRP := Lib.hid (fun W => HR.out p (by omega) W)
      obtain ⟨rt, hrt⟩ : ∃ rt, Rsh.root p 3 = rt := ⟨_, rfl⟩
      rw [hrt] at hs HRP
      have HSI := Lib.hid hs
      clear hs hp hrt hpi
      go_wp2_with (first
        | (go_at_call 66; refine (HRP.out _).mono ?_; rintro e w' ⟨rfl, rfl⟩)
        | (at_builtin; refine wpList_append_w rfl (.tmp 15) (.tmp 17) 94 25 rfl Tryd.underlying94 info_u32 w1.heap.size _ _ (HO.out.alloc _) rfl _ [rt] (one_word _ _ rt rfl) rfl (by rw [HSL.out]; simp; omega) (by simp; omega) ?_; intro v9 w9 ho hg hn'; rw [← HSI.out] at ho; have HO9 := Lib.hid ho; have HB9 := Lib.hid ((HB.out.alloc hsz _).grown hg (by simp; omega) (fun k e => (World.ownsRow.lt HO.out k e).1)); clear ho hg hn'))
      exact ⟨⟨i + 1, by omega, by go_num, HO9, HB9⟩, by simp [intOf]; omega⟩
    · obtain rfl : i = 64 := by omega
      rw [HSA.out] at HO
      go_wp2
      go_ret
      exact ⟨_, rfl, HO.out.mono hz1, HB1.out.trans (HB.out.mono hz1)⟩
end Go.Proofs.YtnoilogepkelaaaDoor
