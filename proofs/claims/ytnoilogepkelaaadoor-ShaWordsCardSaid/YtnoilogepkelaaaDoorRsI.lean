/-
  The document's sha: Behind, Sum.
-/
import Derived.Test.YtnoilogepkelaaaDoorRsH
import Derived.Test.YtnoilogepkelaaaDoorShaB
import Derived.Test.YtnoilogepkelaaaDoorConst
namespace Go.Proofs.YtnoilogepkelaaaDoor
set_option linter.unusedVariables false
set_option linter.unusedSimpArgs false
open Go Go.RowKit

theorem rbehind_no (n : Int) (h : n < 0 ∨ 1152921504606846976 < n) (w : World) : Calls Tryd.prog 32 #[.int .i64 n] w fun e w' => e = .returned (.slice none 0 0) ∧ w = w' := by
  rcases h with h | h
  · go_enter Tryd.func32, Tryd.ntmps32
    go_wp2
    go_ret
    exact ⟨rfl, rfl⟩
  · have h' : ¬ n < 0 := by omega
    go_enter Tryd.func32, Tryd.ntmps32
    go_wp2
    go_ret
    exact ⟨rfl, rfl⟩
theorem bv_ofNat' (k : Nat) : bv (BitVec.ofNat 8 k) = (k : Int) % 256 := by
  unfold bv
  rw [BitVec.toNat_ofNat]
  omega
theorem one_byte {E : TypeId} (w : World) (n : Int) (x : BitVec 8) (h : n = bv x) : SlB (w.alloc (.cells #[.int .u8 n] E)) (.slice (some ⟨w.heap.size, 0, none⟩) 1 1) [x] := by
  subst h
  exact SlB.block (heapA_new w _ _ rfl) 0 1 [x] (by simp) (by decide) (fun j hj => by
    have : j = 0 := by simp at hj; omega
    subst this
    rfl)
/-- 128, noughts, and i of the eight. -/
def Rsh.bhz (k : Nat) : List (BitVec 8) := 128 :: List.replicate k 0
def Rsh.bhe (n i : Nat) : List (BitVec 8) := (List.range i).map fun i => BitVec.ofNat 8 (8 * n / 2 ^ (56 - 8 * i))
theorem Rsh.bhz_succ (k : Nat) : Rsh.bhz (k + 1) = Rsh.bhz k ++ [0] := by simp [Rsh.bhz, List.replicate_succ']
theorem Rsh.bhz_length (k : Nat) : (Rsh.bhz k).length = k + 1 := by simp [Rsh.bhz]
theorem Rsh.bhe_succ (n i : Nat) : Rsh.bhe n (i + 1) = Rsh.bhe n i ++ [BitVec.ofNat 8 (8 * n / 2 ^ (56 - 8 * i))] := by simp [Rsh.bhe, List.range_succ]
theorem Rsh.bhe_length (n i : Nat) : (Rsh.bhe n i).length = i := by simp [Rsh.bhe]
theorem Rsh.bh_end (n : Nat) : Rsh.bhz (Sha.many n - 1) ++ Rsh.bhe n 8 = Sha.behind n := by
  unfold Rsh.bhz Rsh.bhe Sha.behind Sha.be8
  rfl

set_option maxRecDepth 100000 in
set_option maxHeartbeats 4000000 in
theorem rbehind_any (n : Nat) (hn : n ≤ 1152921504606846976) (w : World) : Calls Tryd.prog 32 #[.int .i64 (n : Int)] w (RetB w (Sha.behind n)) := by
  have hp := Sha.many_pos n
  have hmn : Sha.many n = 64 - (n + 8) % 64 := rfl
  have HE := Lib.hid (Rsh.bh_end n)
  obtain ⟨M, hM⟩ : ∃ M, Sha.many n = M := ⟨_, rfl⟩
  rw [hM] at hp hmn HE
  have HM := Lib.hid hmn
  have hn0 : ¬ (n : Int) < 0 := by omega
  have hnm : ¬ (1152921504606846976 : Int) < (n : Int) := by omega
  clear hmn hM
  go_enter Tryd.func32, Tryd.ntmps32
  go_upto_region 4 with fail
  have HO0 := Lib.hid (show OwnB 5 w.heap.size (w.alloc (.cells #[.int .u8 128] 5)) (.slice (some ⟨w.heap.size, 0, none⟩) 1 1) (Rsh.bhz 0) from OwnB.made w [128] (Nat.le_refl _) (by decide))
  have HB0 := Lib.hid ((Below.refl w.heap.size w).alloc (Nat.le_refl _) (.cells #[.int .u8 128] 5))
  generalize w.alloc (.cells #[.int .u8 128] 5) = w0 at *
  go_loopw [3] (fun s3 wr => ∃ k : Nat, k + 1 ≤ M ∧ Hid (OwnB 5 w.heap.size wr s3 (Rsh.bhz k)) ∧ Hid (Below w.heap.size w wr)) (fun s3 _ => 100 - (match s3 with | .slice _ l _ => l | _ => 0))
  case atStart => exact ⟨0, hp.1, HO0, HB0⟩
  case round =>
    clear HO0 HB0
    obtain ⟨k, hk, HO, HB⟩ := hrel
    obtain ⟨a, cap, rfl⟩ := HO.out.sl.len
    rw [Rsh.bhz_length] at HO ⊢
    have hsz := HB.out.size
    obtain ⟨q, hq⟩ : ∃ q, k + 1 = q := ⟨_, rfl⟩
    rw [hq] at HO hk ⊢
    have HQ := Lib.hid hq
    by_cases hlt : q < M
    · have hc : ¬ ((n : Int) + (q : Int) + 8) % 64 = 0 := by have := HM.out; have := HQ.out; omega
      have hc2 : (((n : Int) + (q : Int) + 8) % 64 != 0) = true := by rw [bne_iff_ne]; exact hc
      clear hq
      go_wp2_with (at_builtin; refine wpList_append_b rfl (.tmp 21) (.tmp 22) 22 5 rfl Tryd.underlying22 info_u8 w.heap.size _ _ (HO.out.alloc _) rfl _ [0] (one_byte _ _ 0 rfl) rfl (by have := HQ.out; rw [Rsh.bhz_length]; simp; omega) (by simp; omega) ?_; intro v3 w3 ho hg hn'; rw [← Rsh.bhz_succ] at ho; have HO3 := Lib.hid ho; have HB3 := Lib.hid ((HB.out.alloc hsz _).grown hg (by simp; omega) (fun k e => (World.ownsRow.lt HO.out k e).1)); clear ho hg hn')
      obtain ⟨a3, cap3, rfl⟩ := HO3.out.sl.len
      rw [Rsh.bhz_length] at HO3 ⊢
      refine ⟨⟨k + 1, by have := HQ.out; omega, HO3, HB3⟩, ?_⟩
      have h1 := HQ.out
      simp
      omega
    · obtain rfl : q = M := by omega
      have hc : ((n : Int) + (q : Int) + 8) % 64 = 0 := by have := HM.out; have := HQ.out; omega
      have HKM := Lib.hid (show k = q - 1 by omega)
      obtain ⟨t, ht⟩ : ∃ t, 8 * n = t := ⟨_, rfl⟩
      have e1 : (8 : Int) * (n : Int) = (t : Int) := by omega
      have w1 : IntKind.u64.wrap ((8 : Int) * (n : Int)) = (t : Int) := by rw [e1, wrap_u64_mod]; omega
      have v1 : (8 : Int) * (n : Int) % 18446744073709551616 = (t : Int) := by rw [e1]; omega
      have w0 : IntKind.u64.wrap (n : Int) = (n : Int) := by rw [wrap_u64_mod]; omega
      have HT := Lib.hid ht
      clear hq ht
      rw [HKM.out] at HO
      have HO' := Lib.hid (show OwnB 5 w.heap.size wr (.slice a q cap) (Rsh.bhz (q - 1) ++ Rsh.bhe n 0) by rw [show Rsh.bhe n 0 = [] from rfl, List.append_nil]; exact HO.out)
      go_wp2
      clear e1 w1 v1 w0 hc
      go_loopw [3, 5] (fun s3 s5 wq => ∃ i : Nat, i ≤ 8 ∧ s5 = .int .i64 i ∧ Hid (OwnB 5 w.heap.size wq s3 (Rsh.bhz (q - 1) ++ Rsh.bhe n i)) ∧ Hid (Below w.heap.size w wq)) (fun _ s5 _ => 8 - (intOf s5).toNat)
      case atStart => exact ⟨0, by omega, rfl, HO', HB⟩
      case round =>
        clear HO HO' HB
        obtain ⟨i, hi, rfl, HO, HB⟩ := hrel
        have hsz := HB.out.size
        by_cases hlt8 : i < 8
        · obtain ⟨sh, hsh⟩ : ∃ sh, 56 - 8 * i = sh := ⟨_, rfl⟩
          have e2 : (56 : Int) - 8 * (i : Int) = (sh : Int) := by omega
          have hshl : sh ≤ 56 := by omega
          have hsu := Rsh.bhe_succ n i
          rw [hsh, HT.out] at hsu
          have hval : (t : Int) / 2 ^ sh % 256 = bv (BitVec.ofNat 8 (t / 2 ^ sh)) := by
            rw [bv_ofNat']
            push_cast
            rfl
          have HSU := Lib.hid hsu
          have hw2 : IntKind.u64.wrap (sh : Int) = (sh : Int) := by rw [wrap_u64_mod]; omega
          clear hsh hsu
          go_wp2_with (at_builtin; refine wpList_append_b rfl (.tmp 35) (.tmp 40) 22 5 rfl Tryd.underlying22 info_u8 w.heap.size _ _ (HO.out.alloc _) rfl _ [BitVec.ofNat 8 (t / 2 ^ sh)] (one_byte _ _ _ rfl) rfl (by rw [List.length_append, Rsh.bhz_length, Rsh.bhe_length]; simp; omega) (by simp; omega) ?_; intro v3 w3 ho hg hn'; rw [List.append_assoc, ← HSU.out] at ho; have HO3 := Lib.hid ho; have HB3 := Lib.hid ((HB.out.alloc hsz _).grown hg (by simp; omega) (fun k e => (World.ownsRow.lt HO.out k e).1)); clear ho hg hn')
          exact ⟨⟨i + 1, by omega, by go_num, HO3, HB3⟩, by simp [intOf]; omega⟩
        · obtain rfl : i = 8 := by omega
          rw [HE.out] at HO
          go_wp2
          go_ret
          exact ⟨_, rfl, HO.out, HB.out⟩

set_option maxRecDepth 100000 in
set_option maxHeartbeats 1000000 in
theorem rsum_any (b : List (BitVec 8)) (v : Value) (w : World) (hs : SlB w v b) (hl : b.length ≤ 50000000) :
    Calls Tryd.prog 33 #[v] w fun e w' => e = .returned (.agg (bytes (Sha.sum b))) ∧ Below w.heap.size w w' := by
  obtain ⟨a, cap, rfl⟩ := hs.len
  have hbl := Sha.behind_length b.length
  have hmp := Sha.many_pos b.length
  have HBH := Lib.hid (fun W => rbehind_any b.length (by omega) W)
  have HST := Lib.hid (fun W => rstart_any W)
  have HFO := Lib.hid (fun v W (h : SlB W v (b ++ Sha.behind b.length)) => rfold_any Sha.starts (b ++ Sha.behind b.length) rfl (by rw [List.length_append]; exact Sha.behind_whole _) (by rw [List.length_append]; omega) v W h)
  have HTO := Lib.hid (fun W => rtold_any (Sha.fold Sha.starts (b ++ Sha.behind b.length)) (Sha.foldN_length _ _ _ rfl) W)
  rw [show Sha.told (Sha.fold Sha.starts (b ++ Sha.behind b.length)) = Sha.sum b from rfl] at HTO
  have HIH := Lib.hid (show (Tryd.prog.info? 32).map (·.size) = some (bytes (Sha.sum b)).size by rw [bytes_size, Sha.sum_length]; kernel_rfl)
  have HSL := Lib.hid (Sha.sum_length b)
  have HS := Lib.hid hs
  have HBL := Lib.hid (show (Sha.behind b.length).length ≤ 72 by omega)
  have HN := Lib.hid hl
  obtain ⟨R, hR⟩ : ∃ R, Sha.sum b = R := ⟨_, rfl⟩
  rw [hR] at HTO HIH HSL ⊢
  clear hs hl hbl hmp hR
  go_enter Tryd.func33, Tryd.ntmps33
  go_upto_region 1 with fail
  obtain ⟨X, hX, hBX, hXs, hX0⟩ := alloc1 w (.cells (bytes (List.replicate 32 0)) 32)
  rw [show w.alloc (.cells #[.int .u8 0, .int .u8 0, .int .u8 0, .int .u8 0, .int .u8 0, .int .u8 0, .int .u8 0, .int .u8 0, .int .u8 0, .int .u8 0, .int .u8 0, .int .u8 0, .int .u8 0, .int .u8 0, .int .u8 0, .int .u8 0, .int .u8 0, .int .u8 0, .int .u8 0, .int .u8 0, .int .u8 0, .int .u8 0, .int .u8 0, .int .u8 0, .int .u8 0, .int .u8 0, .int .u8 0, .int .u8 0, .int .u8 0, .int .u8 0, .int .u8 0, .int .u8 0] 32) = X from hX]
  have HB0 := Lib.hid hBX
  have HO0 := Lib.hid hX0
  have HXS := Lib.hid hXs
  have HSX := Lib.hid (HS.out.below hBX (Nat.le_refl _))
  clear hX hBX hX0 hXs
  go_upto_region 4 with (first
    | (at_builtin; refine wpList_append_b rfl (.tmp 4) (.tmp 5) 22 5 rfl Tryd.underlying22 info_u8 X.heap.size (.slice none 0 0) [] (OwnB.nil _ _ _) rfl _ b HSX.out rfl (by have := HN.out; simp; omega) (Nat.le_refl _) ?_; intro v2 w1 ho hg hn'; have HO1 := Lib.hid ho; have HB1 := Lib.hid ((Below.refl X.heap.size X).grown hg (Nat.le_refl _) (fun k e => by cases e)); clear ho hg hn')
    | (go_at_call 32; refine (HBH.out _).mono ?_; rintro e w2 ⟨v3, rfl, ho, hb⟩; have HO2 := Lib.hid ho.sl; have HO1b := Lib.hid (HO1.out.below hb (Nat.le_refl _)); have HB2 := Lib.hid (HB1.out.trans (hb.mono HB1.out.size)); clear ho hb)
    | (at_builtin; refine wpList_append_b rfl (.tmp 7) (.tmp 10) 22 5 rfl Tryd.underlying22 info_u8 X.heap.size _ _ HO1b.out rfl _ _ HO2.out rfl (by have := HBL.out; have := HN.out; simp; omega) HB2.out.size ?_; intro v4 w3 ho hg hn'; have HO3 := Lib.hid ho; have HB3 := Lib.hid (HB2.out.grown hg HB2.out.size (fun k e => (World.ownsRow.lt HO1b.out k e).1)); clear ho hg hn'))
  rw [List.nil_append] at HO3
  have hxs := HXS.out
  have HOR := Lib.hid (show ∀ W, Below X.heap.size X W → W.heap[w.heap.size]? = some (.cells (bytes (List.replicate 32 0)) 32 (0, 0)) from fun W h => (h.block _ (by omega)).trans HO0.out)
  go_wp2_with (first
    | (go_at_call 30; refine (HST.out _).mono ?_; rintro e w4 ⟨rfl, hb⟩; have HO4 := Lib.hid (HO3.out.sl.below hb (Nat.le_refl _)); have HB4 := Lib.hid (HB3.out.trans (hb.mono HB3.out.size)); clear hb)
    | (go_at_call 70; refine (HFO.out _ _ HO4.out).mono ?_; rintro e w5 ⟨rfl, hb⟩; have HB5 := Lib.hid (HB4.out.trans (hb.mono HB4.out.size)); clear hb)
    | (go_at_call 69; refine (HTO.out _).mono ?_; rintro e w6 ⟨rfl, hb⟩; have HB6 := Lib.hid (HB5.out.trans (hb.mono HB5.out.size)); have HO6 := Lib.hid (HOR.out _ (HB5.out.trans (hb.mono HB5.out.size))); clear hb)
    | (refine wpList_store_row rfl 32 (.tmp 2) (.tmp 15) rfl w.heap.size _ rfl rfl _ _ HO6.out HIH.out (by rw [bytes_size, bytes_size, HSL.out]; rfl) (bytes_one _) ?_))
  have hb2 := HB0.out.trans (HB6.out.mono HB0.out.size)
  exact bodyPost_ret (results_cell_row Tryd.results33 _ _ w.heap.size _ _ _ _ rfl (setRow_heap _ _ _ _ _ _ HO6.out) Tryd.underlying32 rfl HIH.out) rfl ⟨rfl, hb2.trans (((Kept.refl [w.heap.size] w6).setRow (by simp) _).toBelow (B := w.heap.size) (by simp) hb2.size)⟩
end Go.Proofs.YtnoilogepkelaaaDoor
