/-
  sha.Of: the digest of a word.
-/
import Derived.Test.YtnoilogepkelaaaDoorShaH
import Derived.Test.YtnoilogepkelaaaDoorShaG
namespace Go.Proofs.YtnoilogepkelaaaDoor
set_option linter.unusedVariables false
set_option linter.unusedSimpArgs false
open Go Go.RowKit
namespace Sha
def nibB (c : BitVec 8) : BitVec 8 := BitVec.ofNat 8 (nib c.toNat).toNat
theorem nibB_bv (c : BitVec 8) : bv (nibB c) = nib c.toNat := by
  have h1 : 0 ≤ nib c.toNat ∧ nib c.toNat < 256 := by unfold nib; split; omega; split; omega; omega
  unfold nibB bv
  rw [BitVec.toNat_ofNat]
  omega
def ofVal (xs : List (BitVec 8)) (j : Nat) : BitVec 8 := nibB (xs.getD (2 * j) 0) <<< 4 ||| nibB (xs.getD (2 * j + 1) 0)
def ofOk (xs : List (BitVec 8)) (j : Nat) : Bool := decide (bv (nibB (xs.getD (2 * j) 0) ||| nibB (xs.getD (2 * j + 1) 0)) < 16)
/-- The digest of a word, if it is one's. -/
def of (xs : List (BitVec 8)) : Option (List (BitVec 8)) := if xs.length = 64 ∧ (List.range 32).all (ofOk xs) = true then some ((List.range 32).map (ofVal xs)) else none
theorem of_bad (xs : List (BitVec 8)) (j : Nat) (hj : j < 32) (h : ofOk xs j = false) : of xs = none := if_neg (fun hc => by have := List.all_eq_true.1 hc.2 j (List.mem_range.2 hj); rw [h] at this; cases this)
theorem of_short (xs : List (BitVec 8)) (h : xs.length ≠ 64) : of xs = none := if_neg (fun hc => h hc.1)
theorem of_good (xs : List (BitVec 8)) (h : xs.length = 64) (hk : ∀ j, j < 32 → ofOk xs j = true) : of xs = some (fill (ofVal xs) 0 32 32) := by rw [fill_all]; exact if_pos ⟨h, List.all_eq_true.2 fun j hj => hk j (List.mem_range.1 hj)⟩
def zero32 : List (BitVec 8) := List.replicate 32 0
end Sha
theorem nibble_b (c : BitVec 8) (w : World) : Calls Tryd.prog 71 #[.int .u8 (bv c)] w fun e w' => e = .returned (.int .u8 (bv (Sha.nibB c))) ∧ w' = w := by
  rw [Sha.nibB_bv]
  exact nibble_any c.toNat c.isLt w
theorem idx_str (xs : List (BitVec 8)) (j : Nat) (hj : j < xs.length) (W : World) : (Instr.index 9 (.string (strB xs)) (.int .i64 (j : Int))).run Tryd.prog W = .ok (.int .u8 (bv (xs.getD j 0))) W := by
  rw [run_index_string _ _ _ _ _ Tryd.underlying9, dif_pos ⟨by omega, by rw [strB_size]; omega⟩]
  have hd : (strB xs).data.toList = (xs.map bv).map (fun n => UInt8.ofNat n.toNat) := strOfNums_data _
  have hg : ∀ h, ((strB xs)[(j : Int).toNat]'h).toNat = (xs.getD j 0).toNat := fun h => by
    have h2 : (strB xs).data.toList[j]? = some (UInt8.ofNat (bv (xs.getD j 0)).toNat) := by
      rw [hd, List.map_map, List.getElem?_map, List.getElem?_eq_getElem hj]
      simp [List.getD, List.getElem?_eq_getElem hj]
    have h3 : (strB xs).data.toList[j]? = some ((strB xs)[(j : Int).toNat]'h) := by
      rw [Array.getElem?_toList, Array.getElem?_eq_getElem (show j < (strB xs).data.size from by have : (strB xs).size = xs.length := strB_size xs; show j < (strB xs).size; omega)]
      rfl
    rw [h3] at h2
    rw [Option.some.inj h2]
    have := (xs.getD j 0).isLt
    simp only [bv, Int.toNat_natCast, UInt8.toNat_ofNat']
    omega
  rw [hg]
  rfl
theorem yields_index_str {ops : Array Oper} {S : World → Prop} {o : Oper} {a : Act} (hw : Region.wanted o (yielded ops a.tmps) = true) (T : TypeId) (x y : Operand) (ho : o.op = .index T x y) (xs : List (BitVec 8)) (Z : ByteArray) (hZ : strB xs = Z)
    (hx : a.eval x = .string Z) (j : Nat) (hy : a.eval y = .int .i64 (j : Int)) (hj : j < xs.length) (c : BitVec 8) (hc : xs.getD j 0 = c) (hT : T = 9 := by rfl) : YieldsIf Tryd.prog ops S o (.int .u8 (bv c)) a :=
  .inl ⟨hw, fun w _ => by
    subst hT
    subst hZ
    subst hc
    unfold execOp
    simp only [ho, hx, hy, Sem.run_bind, Sem.run_pure, Result.andThen_ok, idx_str xs j hj]⟩
theorem u8_shl4 (x : BitVec 8) : bv x * (16 : Int) % (256 : Int) = bv (x <<< 4) := by
  unfold bv
  rw [BitVec.toNat_shiftLeft, Nat.shiftLeft_eq, show (2 : Nat) ^ 4 = 16 from rfl, show (2 : Nat) ^ 8 = 256 from rfl]
  omega

set_option maxRecDepth 100000 in
set_option maxHeartbeats 4000000 in
theorem of_any (xs : List (BitVec 8)) (hl : xs.length ≤ 1000000) (w : World) :
    Calls Tryd.prog 34 #[.string (strB xs)] w fun e w' => e = .returned (.tuple #[.agg (bytes ((Sha.of xs).getD (List.replicate 32 0))), .bool (Sha.of xs).isSome]) ∧ Below w.heap.size w w' := by
  have HIH := Lib.hid (fun (xs : List (BitVec 8)) (h : xs.length = 32) => (show (Tryd.prog.info? 32).map (·.size) = some (bytes xs).size by rw [bytes_size, h]; kernel_rfl))
  obtain ⟨X, hX, hBX, hXs, hX0⟩ := alloc1 w (.cells (bytes (List.replicate 32 0)) 32)
  have hX' : w.alloc (.cells #[.int .u8 0, .int .u8 0, .int .u8 0, .int .u8 0, .int .u8 0, .int .u8 0, .int .u8 0, .int .u8 0, .int .u8 0, .int .u8 0, .int .u8 0, .int .u8 0, .int .u8 0, .int .u8 0, .int .u8 0, .int .u8 0, .int .u8 0, .int .u8 0, .int .u8 0, .int .u8 0, .int .u8 0, .int .u8 0, .int .u8 0, .int .u8 0, .int .u8 0, .int .u8 0, .int .u8 0, .int .u8 0, .int .u8 0, .int .u8 0, .int .u8 0, .int .u8 0] 32) = X := hX
  have HX' := Lib.hid hX'
  have HX0 := Lib.hid hX0
  have HBX := Lib.hid hBX
  have hss := strB_size xs
  have HI0 := Lib.hid (HIH.out (List.replicate 32 0) (by simp))
  obtain ⟨S, hS⟩ : ∃ S, strB xs = S := ⟨_, rfl⟩
  rw [hS] at hss ⊢
  have HS := Lib.hid hS
  clear hX hX' hX0 hBX hS
  by_cases h64 : xs.length = 64
  · rw [h64] at hss
    go_enter Tryd.func34, Tryd.ntmps34
    go_upto_region 4 with fail
    rw [HX'.out]
    have HC : Hid (X.heap[w.heap.size]? = some (.cells (bytes (fill (Sha.ofVal xs) 0 32 0)) 32 (0, 0))) := by rw [fill_zero]; exact HX0.out
    have HB := HBX
    clear HX' hXs hss
    go_loopw [11] (fun s wr => ∃ i : Nat, i ≤ 32 ∧ s = .int .i64 i ∧ Hid (wr.heap[w.heap.size]? = some (.cells (bytes (fill (Sha.ofVal xs) 0 32 i)) 32 (0, 0))) ∧ Hid (Below w.heap.size w wr) ∧ Hid (∀ j, j < i → Sha.ofOk xs j = true)) (fun s _ => 32 - (intOf s).toNat)
    case atStart => exact ⟨0, by omega, rfl, HC, HB, Lib.hid (fun j hj => absurd hj (by omega))⟩
    case round =>
      clear HC HB HX0 HBX
      obtain ⟨i, hi, rfl, HC, HB, HK⟩ := hrel
      by_cases hlt : i < 32
      · obtain ⟨p, hp⟩ : ∃ p, 2 * i = p := ⟨_, rfl⟩
        obtain ⟨q, hq⟩ : ∃ q, p + 1 = q := ⟨_, rfl⟩
        have hp1 : 2 * (i : Int) = ((p : Nat) : Int) := by omega
        have hp2 : (p : Int) + 1 = ((q : Nat) : Int) := by omega
        have hpl : p < xs.length := by omega
        have hql : q < xs.length := by omega
        have hok : Sha.ofOk xs i = decide (bv (Sha.nibB (xs.getD p 0) ||| Sha.nibB (xs.getD q 0)) < 16) := by rw [Sha.ofOk, hp, hq]
        have hva : Sha.ofVal xs i = Sha.nibB (xs.getD p 0) <<< 4 ||| Sha.nibB (xs.getD q 0) := by rw [Sha.ofVal, hp, hq]
        have HOK := Lib.hid hok
        have HVA := Lib.hid hva
        have HWP := Lib.hid (show IntKind.i64.wrap (p : Int) = p by rw [IntKind.wrap_i64]; omega)
        have HWQ := Lib.hid (show IntKind.i64.wrap (q : Int) = q by rw [IntKind.wrap_i64]; omega)
        obtain ⟨cp, hcp⟩ : ∃ cp, xs.getD p 0 = cp := ⟨_, rfl⟩
        obtain ⟨cq, hcq⟩ : ∃ cq, xs.getD q 0 = cq := ⟨_, rfl⟩
        rw [hcp, hcq] at HOK HVA
        have HCP := Lib.hid hcp
        have HCQ := Lib.hid hcq
        clear hp hq hok hva hcp hcq
        go_upto_region 6 with fail
        go_cut [5, 6] (fun s5 s6 wx => s5 = .int .u8 (bv (Sha.nibB cp)) ∧ s6 = .int .u8 (bv (Sha.nibB cq)) ∧ ∃ m, wx = wr.drewN m)
        case first =>
          -- OF BEGIN
          refine wp_region_held_drew (S := fun w' => True) (by kernel_rfl) trivial (fun hHeld => ?_)
          refine wpAnyH_take (i := 0) (v := ?v1) rfl (by kernel_rfl) (by kernel_rfl) (by kernel_rfl) (fun _ _ _ h => h) (Or.inl ⟨by rfl, ?y1⟩) (by assumption) ?r1
          case y1 =>
            intro w' hSw
            go_split_ands
            go_simp
            try with_reducible rfl
          try simp only [List.getElem_toArray, List.getElem_cons_zero, List.getElem_cons_succ, Act.put, List.setIfInBounds_toArray, List.set_cons_zero, List.set_cons_succ]
          refine wpAnyH_take (i := 1) (v := ?v2) rfl (by kernel_rfl) (by kernel_rfl) (by kernel_rfl) (fun _ _ _ h => h) (Or.inl ⟨by rfl, ?y2⟩) (by assumption) ?r2
          case y2 =>
            intro w' hSw
            go_split_ands
            go_simp
            try with_reducible rfl
          try simp only [List.getElem_toArray, List.getElem_cons_zero, List.getElem_cons_succ, Act.put, List.setIfInBounds_toArray, List.set_cons_zero, List.set_cons_succ]
          refine wpAnyH_take (i := 2) (v := .int .i64 (p : Nat)) rfl (by kernel_rfl) (by kernel_rfl) (by kernel_rfl) (fun _ _ _ h => h) (Or.inl ⟨by rfl, ?y3⟩) (by assumption) ?r3
          case y3 =>
            intro w' hSw
            go_simp
            first | done | exact HWP.out
          try simp only [List.getElem_toArray, List.getElem_cons_zero, List.getElem_cons_succ, Act.put, List.setIfInBounds_toArray, List.set_cons_zero, List.set_cons_succ]
          refine wpAnyH_take (i := 3) rfl (by kernel_rfl) (by kernel_rfl) (by kernel_rfl) (fun _ _ _ h => h) (yields_index_str (by rfl) 9 (.tmp 14) (.tmp 16) rfl xs S HS.out rfl p rfl hpl _ HCP.out) (by assumption) ?_
          try simp only [List.getElem_toArray, List.getElem_cons_zero, List.getElem_cons_succ, Act.put, List.setIfInBounds_toArray, List.set_cons_zero, List.set_cons_succ]
          refine wpAnyH_take (i := 5) (v := ?v4) rfl (by kernel_rfl) (by kernel_rfl) (by kernel_rfl) (fun _ _ _ h => h) (Or.inl ⟨by rfl, ?y4⟩) (by assumption) ?r4
          case y4 =>
            intro w' hSw
            go_split_ands
            go_simp
            try with_reducible rfl
          try simp only [List.getElem_toArray, List.getElem_cons_zero, List.getElem_cons_succ, Act.put, List.setIfInBounds_toArray, List.set_cons_zero, List.set_cons_succ]
          refine wpAnyH_take (i := 6) (v := ?v5) rfl (by kernel_rfl) (by kernel_rfl) (by kernel_rfl) (fun _ _ _ h => h) (Or.inl ⟨by rfl, ?y5⟩) (by assumption) ?r5
          case y5 =>
            intro w' hSw
            go_split_ands
            go_simp
            try with_reducible rfl
          try simp only [List.getElem_toArray, List.getElem_cons_zero, List.getElem_cons_succ, Act.put, List.setIfInBounds_toArray, List.set_cons_zero, List.set_cons_succ]
          refine wpAnyH_take (i := 7) (v := .int .i64 (p : Nat)) rfl (by kernel_rfl) (by kernel_rfl) (by kernel_rfl) (fun _ _ _ h => h) (Or.inl ⟨by rfl, ?y6⟩) (by assumption) ?r6
          case y6 =>
            intro w' hSw
            go_simp
            first | done | exact HWP.out
          try simp only [List.getElem_toArray, List.getElem_cons_zero, List.getElem_cons_succ, Act.put, List.setIfInBounds_toArray, List.set_cons_zero, List.set_cons_succ]
          refine wpAnyH_take (i := 8) (v := .int .i64 (q : Nat)) rfl (by kernel_rfl) (by kernel_rfl) (by kernel_rfl) (fun _ _ _ h => h) (Or.inl ⟨by rfl, ?y7⟩) (by assumption) ?r7
          case y7 =>
            intro w' hSw
            go_simp
            first | done | exact HWQ.out
          try simp only [List.getElem_toArray, List.getElem_cons_zero, List.getElem_cons_succ, Act.put, List.setIfInBounds_toArray, List.set_cons_zero, List.set_cons_succ]
          refine wpAnyH_take (i := 9) rfl (by kernel_rfl) (by kernel_rfl) (by kernel_rfl) (fun _ _ _ h => h) (yields_index_str (by rfl) 9 (.tmp 19) (.tmp 22) rfl xs S HS.out rfl q rfl hql _ HCQ.out) (by assumption) ?_
          try simp only [List.getElem_toArray, List.getElem_cons_zero, List.getElem_cons_succ, Act.put, List.setIfInBounds_toArray, List.set_cons_zero, List.set_cons_succ]
          refine wpAnyH_ready (rs := [4]) (by kernel_rfl) (by simp) ?_
          refine AllReadyH.cons (i := 4) rfl (fun K hK => ?_) AllReadyH.nil
          go_simp
          go_at_call 71
          refine (nibble_b cp _).mono ?_
          rintro e wa ⟨rfl, rfl⟩
          refine hK.out _ _ (trivial) (fun hHeld' => ?_)
          clear hHeld hK K
          have hHeld := hHeld'
          clear hHeld'
          try simp only [List.getElem_toArray, List.getElem_cons_zero, List.getElem_cons_succ, Act.put, List.setIfInBounds_toArray, List.set_cons_zero, List.set_cons_succ]
          refine wpAnyH_ready (rs := [10]) (by kernel_rfl) (by simp) ?_
          refine AllReadyH.cons (i := 10) rfl (fun K hK => ?_) AllReadyH.nil
          go_simp
          go_at_call 71
          refine (nibble_b cq _).mono ?_
          rintro e wa ⟨rfl, rfl⟩
          refine hK.out _ _ (trivial) (fun hHeld' => ?_)
          clear hHeld hK K
          have hHeld := hHeld'
          clear hHeld'
          try simp only [List.getElem_toArray, List.getElem_cons_zero, List.getElem_cons_succ, Act.put, List.setIfInBounds_toArray, List.set_cons_zero, List.set_cons_succ]
          refine wpAnyH_take (i := 11) (v := ?v8) rfl (by kernel_rfl) (by kernel_rfl) (by kernel_rfl) (fun _ _ _ h => h) (Or.inl ⟨by rfl, ?y8⟩) (by assumption) ?r8
          case y8 =>
            intro w' hSw
            go_split_ands
            go_simp
            try with_reducible rfl
          try simp only [List.getElem_toArray, List.getElem_cons_zero, List.getElem_cons_succ, Act.put, List.setIfInBounds_toArray, List.set_cons_zero, List.set_cons_succ]
          refine wpAnyH_take (i := 12) (v := ?v9) rfl (by kernel_rfl) (by kernel_rfl) (by kernel_rfl) (fun _ _ _ h => h) (Or.inl ⟨by rfl, ?y9⟩) (by assumption) ?r9
          case y9 =>
            intro w' hSw
            go_split_ands
            go_simp
            try with_reducible rfl
          try simp only [List.getElem_toArray, List.getElem_cons_zero, List.getElem_cons_succ, Act.put, List.setIfInBounds_toArray, List.set_cons_zero, List.set_cons_succ]
          refine wpAnyH_done (by kernel_rfl) ?_ _
          go_wp2_with fail
          go_meet
          exact ⟨rfl, rfl, _, rfl⟩
        -- OF END
        case rest =>
          obtain ⟨rfl, rfl, m, rfl⟩ := hcut
          have hor := u8_or' (Sha.nibB cp) (Sha.nibB cq)
          have HB2 := Lib.hid (Below.drewN HB.out m)
          have HC2 : Hid ((wr.drewN m).heap[w.heap.size]? = some (.cells (bytes (fill (Sha.ofVal xs) 0 32 i)) 32 (0, 0))) := HC.out
          by_cases hok : Sha.ofOk xs i = true
          · have hlt16 : bv (Sha.nibB cp ||| Sha.nibB cq) < 16 := by have := HOK.out; rw [hok] at this; simpa using this.symm
            have hs4 := u8_shl4 (Sha.nibB cp)
            have hor2 := u8_or' (Sha.nibB cp <<< 4) (Sha.nibB cq)
            rw [← HVA.out] at hor2
            have cr := (cell_of_row (wr.drewN m) w.heap.size i _ _ _ HC2.out).trans (bytes_get? _ i (by rw [fill_length _ _ _ _ hi]; exact hlt))
            have fr := frozen_of_row (wr.drewN m) w.heap.size i _ _ HC2.out
            generalize (fill (Sha.ofVal xs) 0 32 i).getD i 0 = z at cr
            have hn := heap_setCell_same (wr.drewN m) w.heap.size i _ _ (.int .u8 (bv (Sha.ofVal xs i))) HC2.out
            rw [bytes_set, fill_set _ _ _ _ hlt] at hn
            have HN := Lib.hid hn
            have HBN := Lib.hid (HB2.out.setCell (p := ⟨w.heap.size, i, none⟩) (Nat.le_refl _) (.int .u8 (bv (Sha.ofVal xs i))))
            have HKN : Hid (∀ j, j < i + 1 → Sha.ofOk xs j = true) := fun j hj => by
              by_cases e : j = i
              · rw [e]; exact hok
              · exact HK.out j (by omega)
            clear hn hok
            generalize Sha.ofVal xs i = y at *
            generalize Sha.nibB cp = np at *
            generalize Sha.nibB cq = nq at *
            go_wp2
            exact ⟨⟨i + 1, by omega, by go_num, HN, HBN, HKN⟩, by simp [intOf]; omega⟩
          · have hof := Sha.of_bad xs i hlt (by simpa using hok)
            have hge16 : 16 ≤ bv (Sha.nibB cp ||| Sha.nibB cq) := by have := HOK.out; simp only [hok] at this; simpa using this.symm
            have HOF := Lib.hid hof
            have HSZ := Lib.hid (show (bytes (fill (Sha.ofVal xs) 0 32 i)).size = (bytes (List.replicate 32 0)).size by rw [bytes_size, bytes_size, fill_length _ _ _ _ hi]; rfl)
            have HZ := Lib.hid (setRow_heap _ w.heap.size _ (bytes (List.replicate 32 0)) _ _ HC2.out)
            have HBZ := Lib.hid (HB2.out.trans (((Kept.refl [w.heap.size] (wr.drewN m)).setRow (b := w.heap.size) (by simp) (bytes (List.replicate 32 0))).toBelow (B := w.heap.size) (by simp) HB2.out.size))
            clear hof hok
            generalize Sha.nibB cp = np at *
            generalize Sha.nibB cq = nq at *
            go_wp2_with (refine wpList_store_row rfl 32 (.tmp 2) (.tmp 29) rfl w.heap.size (bytes (List.replicate 32 0)) rfl rfl _ _ HC2.out HI0.out HSZ.out (bytes_one _) ?_)
            exact bodyPost_ret (results_row_tmp Tryd.results34 _ _ w.heap.size _ _ _ _ rfl HZ.out Tryd.underlying32 rfl HI0.out) rfl ⟨by rw [HOF.out]; rfl, HBZ.out⟩
      · obtain rfl : i = 32 := by omega
        have HOF := Lib.hid (Sha.of_good xs h64 HK.out)
        have HST : Hid (wr.setRow w.heap.size (bytes (fill (Sha.ofVal xs) 0 32 32)) = wr) := setRow_self _ _ _ _ _ HC.out
        have HIF := Lib.hid (HIH.out (fill (Sha.ofVal xs) 0 32 32) (fill_length _ _ _ _ (Nat.le_refl _)))
        go_wp2_with (first
          | (refine wpList_load_row rfl 32 (.tmp 2) rfl w.heap.size rfl _ _ _ _ HC.out Tryd.underlying32 rfl HIF.out ?_)
          | (refine wpList_store_row rfl 32 (.tmp 2) (.tmp 37) rfl w.heap.size (bytes (fill (Sha.ofVal xs) 0 32 32)) rfl rfl _ _ HC.out HIF.out rfl (bytes_one _) ?_; rw [HST.out]))
        exact bodyPost_ret (results_row_tmp Tryd.results34 _ _ w.heap.size _ _ _ _ rfl HC.out Tryd.underlying32 rfl HIF.out) rfl ⟨by rw [HOF.out]; rfl, HB.out⟩
  · rw [Sha.of_short xs h64]
    have hne : ¬ ((xs.length : Int) = 64) := by omega
    have HST : Hid (X.setRow w.heap.size (bytes (List.replicate 32 0)) = X) := setRow_self _ _ _ _ _ HX0.out
    go_enter Tryd.func34, Tryd.ntmps34
    go_upto_region 2 with fail
    rw [HX'.out]
    go_wp2_with (first
      | (refine wpList_load_row rfl 32 (.tmp 2) rfl w.heap.size rfl _ _ _ _ HX0.out Tryd.underlying32 rfl HI0.out ?_)
      | (refine wpList_store_row rfl 32 (.tmp 2) (.tmp 10) rfl w.heap.size (bytes (List.replicate 32 0)) rfl rfl _ _ HX0.out HI0.out rfl (bytes_one _) ?_; rw [HST.out]))
    exact bodyPost_ret (results_row_tmp Tryd.results34 _ _ w.heap.size _ _ _ _ rfl HX0.out Tryd.underlying32 rfl HI0.out) rfl ⟨rfl, HBX.out⟩
end Go.Proofs.YtnoilogepkelaaaDoor
