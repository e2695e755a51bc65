/-
  The document's sha: r, s, Schedule.
-/
import Derived.Test.YtnoilogepkelaaaDoorRsD
import Derived.Test.YtnoilogepkelaaaDoorShaP
import Derived.Deep.QuietTactic
import Derived.BigQuiet
namespace Go.Proofs.YtnoilogepkelaaaDoor
set_option linter.unusedVariables false
set_option linter.unusedSimpArgs false
open Go Go.RowKit
attribute [local go_sem] u32_add u32_sub u32_xor u32_or u32_and' u32_shl u32_shr

theorem rr_any (x : BitVec 32) (n : Nat) (h0 : 0 < n) (h1 : n < 32) (w : World) :
    Calls Tryd.prog 93 #[.int .u32 (wv x), .int .u64 (n : Int)] w fun e w' => e = .returned (.int .u32 (wv (Sha.rr x n))) ∧ w = w' := by
  obtain ⟨k, hk⟩ : ∃ k, 32 - n = k := ⟨_, rfl⟩
  have he : x >>> n ||| x <<< k = Sha.rr x n := by
    unfold Sha.rr
    rw [hk, rot_eq x k (by omega), BitVec.or_comm, show 32 - k = n by omega]
  have HE := Lib.hid he
  have e1 : (32 : Int) - (n : Int) = (k : Int) := by omega
  have w1 : IntKind.u64.wrap ((32 : Int) - (n : Int)) = (k : Int) := by rw [e1, wrap_u64_mod]; omega
  have v1 : ((32 : Int) - (n : Int)) % 18446744073709551616 = (k : Int) := by rw [e1]; omega
  have hk32 : k < 32 := by omega
  clear he hk
  generalize Sha.rr x n = r at *
  go_enter Tryd.func93, Tryd.ntmps93
  go_wp2
  go_ret
  exact ⟨ret_int (by rw [HE.out]), rfl⟩
theorem rs_any (x : BitVec 32) (n : Nat) (h1 : n < 32) (w : World) :
    Calls Tryd.prog 99 #[.int .u32 (wv x), .int .u64 (n : Int)] w fun e w' => e = .returned (.int .u32 (wv (x >>> n))) ∧ w = w' := by
  go_enter Tryd.func99, Tryd.ntmps99
  go_wp2
  go_ret
  exact ⟨rfl, rfl⟩

theorem Rsh.shl_add (x : BitVec 32) (y : BitVec 8) : (x <<< 8) + y.setWidth 32 = x <<< 8 ||| y.setWidth 32 := by
  refine BitVec.add_eq_or_of_and_eq_zero _ _ ?_
  ext i hi
  simp only [BitVec.getElem_and, BitVec.getElem_shiftLeft, BitVec.getElem_setWidth]
  by_cases h : i < 8
  · simp [h]
  · rw [BitVec.getLsbD_of_ge y i (by omega)]
    simp
theorem Rsh.mul256 (x : BitVec 32) : (256 : Int) * wv x % (4294967296 : Int) = wv (x <<< 8) := by
  unfold wv
  rw [BitVec.toNat_shiftLeft, Nat.shiftLeft_eq]
  omega
theorem Rsh.add8 (x : BitVec 32) (y : BitVec 8) : (wv (x <<< 8) + wv (y.setWidth 32)) % (4294967296 : Int) = wv (x <<< 8 ||| y.setWidth 32) := by
  rw [← wrap_u32_mod, u32_add, Rsh.shl_add]

set_option maxRecDepth 100000 in
set_option maxHeartbeats 4000000 in
theorem schedule_any (b : List (BitVec 8)) (hb : b.length = 64) (v : Value) (w : World) (hs : SlB w v b) : Calls Tryd.prog 92 #[v] w (RetW w (Sha.sched b 64)) := by
  obtain ⟨b0, o0, cap0, rfl, hc0, _⟩ := hs.open_ 64 hb (by omega)
  have HS := Lib.hid hs
  have HBL := Lib.hid hb
  have HN := Lib.hid (fun n => (show Sha.sched b (n + 1) = Sha.sched b n ++ [Sha.next b (Sha.sched b n) n] from rfl))
  have HNX := Lib.hid (fun ws n => (show Sha.next b ws n = if n < 16 then Sha.wordAt b n else ws.getD (n - 16) 0 + Sha.small (ws.getD (n - 15) 0) 7 18 3 + ws.getD (n - 7) 0 + Sha.small (ws.getD (n - 2) 0) 17 19 10 from rfl))
  have HL := Lib.hid (fun n => Sha.sched_length b n)
  have HPW := Lib.hid (fun p k => (show Sha.pw b p (k + 1) = Sha.pw b p k <<< 8 ||| (b.getD (4 * p + k) 0).setWidth 32 from rfl))
  have HP4 := Lib.hid (fun p => Sha.pw_four b p)
  have HP0 := Lib.hid (fun p => (show Sha.pw b p 0 = 0 from rfl))
  clear hs hb
  go_enter Tryd.func92, Tryd.ntmps92
  go_wp2
  go_loopw [3, 4] (fun s3 s4 wr => ∃ i : Nat, i ≤ 64 ∧ s4 = .int .i64 i ∧ Hid (OwnW 25 w.heap.size wr s3 (Sha.sched b i)) ∧ Hid (Below w.heap.size w wr)) (fun _ s4 _ => 64 - (intOf s4).toNat)
  case atStart => exact ⟨0, by omega, rfl, OwnW.nil _ _ _, Below.refl _ _⟩
  case round =>
    obtain ⟨i, hi, rfl, HO, HB⟩ := hrel
    have hsz := HB.out.size
    by_cases h64 : i < 64
    · by_cases h16 : i < 16
      · have hn := HN.out i
        rw [HNX.out, if_pos h16] at hn
        have HSC := Lib.hid hn
        have HSW := Lib.hid (HS.out.below HB.out (Nat.le_refl _))
        clear hn
        go_wp2
        go_loop [5, 6] (fun s5 s6 => ∃ j q : Nat, j ≤ 4 ∧ q = 4 * i + j ∧ s6 = .int .i64 q ∧ s5 = .int .u32 (wv (Sha.pw b i j))) (fun _ s6 => 300 - (intOf s6).toNat)
        case atStart => exact ⟨0, 4 * i, by omega, by omega, by go_num, by rw [HP0.out]; rfl⟩
        case round =>
          obtain ⟨j, q, hj, hq, rfl, rfl⟩ := hrel
          by_cases hj4 : j < 4
          · have hqi : (q : Int) < 4 * (i : Int) + 4 := by omega
            have c0 := HSW.out.cell q (by rw [HBL.out]; omega)
            unfold byteV at c0
            have hp := HPW.out i j
            rw [← hq] at hp
            have hq64 : (q : Int) < 64 := by omega
            generalize b.getD q 0 = y at c0 hp
            generalize Sha.pw b i j = x at hp ⊢
            have HP := Lib.hid hp
            have HQ := Lib.hid hq
            have m1 := Rsh.mul256 x
            have m2 := Rsh.add8 x y
            have m3 : IntKind.u32.wrap ((256 : Int) * wv x) = wv (x <<< 8) := by rw [wrap_u32_mod]; exact m1
            have m4 : IntKind.u32.wrap (wv (x <<< 8) + wv (y.setWidth 32)) = wv (x <<< 8 ||| y.setWidth 32) := by rw [wrap_u32_mod]; exact m2
            have hy : bv y = wv (y.setWidth 32) := by rw [← u8_to_u32, wrap_u32_mod]; have := bv_nonneg y; have := bv_lt y; omega
            have hyw : wv (y.setWidth 32) % (4294967296 : Int) = wv (y.setWidth 32) := Int.emod_eq_of_lt (wv_nonneg _) (wv_lt _)
            clear hp hq
            go_wp2
            exact ⟨⟨j + 1, q + 1, by omega, by have := HQ.out; omega, by go_num, by rw [HP.out]⟩, by simp [intOf]; omega⟩
          · obtain rfl : j = 4 := by omega
            have hqi : ¬ (q : Int) < 4 * (i : Int) + 4 := by omega
            rw [HP4.out]
            go_wp2_with (at_builtin; refine wpList_append_w rfl (.tmp 33) (.tmp 35) 94 25 rfl Tryd.underlying94 info_u32 w.heap.size _ _ (HO.out.alloc _) rfl _ [Sha.wordAt b i] (one_word _ _ _ rfl) rfl (by rw [HL.out]; simp; omega) (by simp; omega) ?_; intro v9 w9 ho hg hn'; rw [← HSC.out] at ho; have HO9 := Lib.hid ho; have HB9 := Lib.hid ((HB.out.alloc hsz _).grown hg (by simp; omega) (fun k e => (World.ownsRow.lt HO.out k e).1)); clear ho hg hn')
            exact ⟨⟨i + 1, by omega, by go_num, HO9, HB9⟩, by simp [intOf]; omega⟩
      · have hn := HN.out i
        rw [HNX.out, if_neg h16] at hn
        obtain ⟨g, cap, rfl, hgb, hgl, hgc, hsl⟩ := HO.out.form i (HL.out i) (by omega)
        have c15 := hsl.cell (i - 15) (by rw [HL.out]; omega)
        have c2 := hsl.cell (i - 2) (by rw [HL.out]; omega)
        have c16 := hsl.cell (i - 16) (by rw [HL.out]; omega)
        have c7 := hsl.cell (i - 7) (by rw [HL.out]; omega)
        unfold wordV at c15 c2 c16 c7
        rw [Nat.zero_add] at c15 c2 c16 c7
        generalize (Sha.sched b i).getD (i - 15) 0 = x at c15 hn
        generalize (Sha.sched b i).getD (i - 2) 0 = y at c2 hn
        generalize (Sha.sched b i).getD (i - 16) 0 = z at c16 hn
        generalize (Sha.sched b i).getD (i - 7) 0 = t at c7 hn
        unfold Sha.small at hn
        have HX1 := Lib.hid (fun W => (show Calls Tryd.prog 93 #[.int .u32 (wv x), .int .u64 7] W fun e w' => e = .returned (.int .u32 (wv (Sha.rr x 7))) ∧ w' = W from (rr_any x 7 (by omega) (by omega) W).mono fun _ _ h => ⟨h.1, h.2.symm⟩))
        have HX2 := Lib.hid (fun W => (show Calls Tryd.prog 93 #[.int .u32 (wv x), .int .u64 18] W fun e w' => e = .returned (.int .u32 (wv (Sha.rr x 18))) ∧ w' = W from (rr_any x 18 (by omega) (by omega) W).mono fun _ _ h => ⟨h.1, h.2.symm⟩))
        have HX3 := Lib.hid (fun W => (show Calls Tryd.prog 99 #[.int .u32 (wv x), .int .u64 3] W fun e w' => e = .returned (.int .u32 (wv (x >>> 3))) ∧ w' = W from (rs_any x 3 (by omega) W).mono fun _ _ h => ⟨h.1, h.2.symm⟩))
        have HY1 := Lib.hid (fun W => (show Calls Tryd.prog 93 #[.int .u32 (wv y), .int .u64 17] W fun e w' => e = .returned (.int .u32 (wv (Sha.rr y 17))) ∧ w' = W from (rr_any y 17 (by omega) (by omega) W).mono fun _ _ h => ⟨h.1, h.2.symm⟩))
        have HY2 := Lib.hid (fun W => (show Calls Tryd.prog 93 #[.int .u32 (wv y), .int .u64 19] W fun e w' => e = .returned (.int .u32 (wv (Sha.rr y 19))) ∧ w' = W from (rr_any y 19 (by omega) (by omega) W).mono fun _ _ h => ⟨h.1, h.2.symm⟩))
        have HY3 := Lib.hid (fun W => (show Calls Tryd.prog 99 #[.int .u32 (wv y), .int .u64 10] W fun e w' => e = .returned (.int .u32 (wv (y >>> 10))) ∧ w' = W from (rs_any y 10 (by omega) W).mono fun _ _ h => ⟨h.1, h.2.symm⟩))
        have HH := Lib.hid hn
        have i0 : ¬ (i : Int) < 16 := by omega
        have w15 : IntKind.i64.wrap ((i : Int) - 15) = (i : Int) - 15 ∧ (0 : Int) ≤ (i : Int) - 15 ∧ (i : Int) - 15 < i ∧ ((i : Int) - 15).toNat = i - 15 := by rw [IntKind.wrap_i64]; omega
        have w2' : IntKind.i64.wrap ((i : Int) - 2) = (i : Int) - 2 ∧ (0 : Int) ≤ (i : Int) - 2 ∧ (i : Int) - 2 < i ∧ ((i : Int) - 2).toNat = i - 2 := by rw [IntKind.wrap_i64]; omega
        have w16 : IntKind.i64.wrap ((i : Int) - 16) = (i : Int) - 16 ∧ (0 : Int) ≤ (i : Int) - 16 ∧ (i : Int) - 16 < i ∧ ((i : Int) - 16).toNat = i - 16 := by rw [IntKind.wrap_i64]; omega
        have w7 : IntKind.i64.wrap ((i : Int) - 7) = (i : Int) - 7 ∧ (0 : Int) ≤ (i : Int) - 7 ∧ (i : Int) - 7 < i ∧ ((i : Int) - 7).toNat = i - 7 := by rw [IntKind.wrap_i64]; omega
        obtain ⟨p15, q15, r15, s15⟩ := w15
        obtain ⟨p2, q2, r2, s2⟩ := w2'
        obtain ⟨p16, q16, r16, s16⟩ := w16
        obtain ⟨p7, q7, r7, s7⟩ := w7
        clear hn hsl
        go_upto_region 14 with fail
        go_quiet ((first
          | (go_at_call 93; with_reducible exact Calls.quiet_of_same (HX1.out _)) | (go_at_call 93; with_reducible exact Calls.quiet_of_same (HX2.out _)) | (go_at_call 99; with_reducible exact Calls.quiet_of_same (HX3.out _))
          | (go_at_call 93; with_reducible exact Calls.quiet_of_same (HY1.out _)) | (go_at_call 93; with_reducible exact Calls.quiet_of_same (HY2.out _)) | (go_at_call 99; with_reducible exact Calls.quiet_of_same (HY3.out _))))
        go_wp2_with (at_builtin; refine wpList_append_w rfl (.tmp 76) (.tmp 78) 94 25 rfl Tryd.underlying94 info_u32 w.heap.size _ _ (show OwnW 25 w.heap.size ((wr.drewN _).alloc _) _ _ from HO.out.alloc _) rfl _ [_] (one_word _ _ _ rfl) rfl (by rw [HL.out]; simp; omega) (by simp; omega) ?_; intro v9 w9 ho hg hn'; rw [← HH.out] at ho; have HO9 := Lib.hid ho; have HB9 := Lib.hid (((Below.drewN HB.out _).alloc hsz _).grown hg (by simp; omega) (fun k e => (World.ownsRow.lt HO.out k e).1)); clear ho hg hn')
        exact ⟨⟨i + 1, by omega, by go_num, HO9, HB9⟩, by simp [intOf]; omega⟩
    · obtain rfl : i = 64 := by omega
      go_wp2
      go_ret
      exact ⟨_, rfl, HO.out, HB.out⟩
end Go.Proofs.YtnoilogepkelaaaDoor
