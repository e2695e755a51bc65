/-
  The law HmacKnown: its helpers.
-/
import Derived.Test.YtnoilogepkelaaaDoorHmaD
import Derived.Test.YtnoilogepkelaaaDoorShaK
import Derived.Test.YtnoilogepkelaaaDoorHmaL1
namespace Go.Proofs.YtnoilogepkelaaaDoor
set_option linter.unusedVariables false
set_option linter.unusedSimpArgs false
open Go Go.RowKit

def hdig (c : BitVec 8) : BitVec 8 := if 97 ≤ c.toNat then c - 97 + 10 else c - 48
def hexB (p q : BitVec 8) : BitVec 8 := 16 * hdig p + hdig q
def hexN (xs : List (BitVec 8)) (k : Nat) : List (BitVec 8) := (List.range k).map fun j => hexB (xs.getD (2 * j) 0) (xs.getD (2 * j + 1) 0)
theorem hexN_succ (xs : List (BitVec 8)) (k : Nat) : hexN xs (k + 1) = hexN xs k ++ [hexB (xs.getD (2 * k) 0) (xs.getD (2 * k + 1) 0)] := by simp [hexN, List.range_succ]
theorem hexN_length (xs : List (BitVec 8)) (k : Nat) : (hexN xs k).length = k := by simp [hexN]
theorem u8_subc (c : BitVec 8) (k : Nat) (h : k < 256) : (bv c - (k : Int)) % 256 = bv (c - BitVec.ofNat 8 k) := by
  unfold bv
  rw [BitVec.toNat_sub, BitVec.toNat_ofNat]
  have := c.isLt
  omega
theorem digit_any (c : BitVec 8) (w : World) : Calls Tryd.prog 73 #[.int .u8 (bv c)] w fun e w' => e = .returned (.int .u8 (bv (hdig c))) ∧ w = w' := by
  have h0 := bv_nonneg c
  have h1 := bv_lt c
  have hd : bv (hdig c) = if 97 ≤ bv c then bv c - 87 else (bv c - 48) % 256 := by
    unfold hdig bv
    have hc := c.isLt
    by_cases h : 97 ≤ c.toNat
    · rw [if_pos h, if_pos (by omega), BitVec.toNat_add, BitVec.toNat_sub]
      simp
      omega
    · rw [if_neg h, if_neg (by omega), BitVec.toNat_sub]
      simp
      omega
  have HD := Lib.hid hd
  clear hd
  generalize bv (hdig c) = r at HD ⊢
  generalize bv c = x at *
  by_cases h : 97 ≤ x
  · rw [if_pos h] at HD
    have h2 : x - 97 + 10 = x - 87 := by omega
    go_enter Tryd.func73, Tryd.ntmps73
    go_wp2
    go_ret
    exact ⟨ret_int (by rw [HD.out] <;> omega), rfl⟩
  · rw [if_neg h] at HD
    go_enter Tryd.func73, Tryd.ntmps73
    go_wp2
    go_ret
    exact ⟨ret_int (by rw [HD.out]), rfl⟩

set_option maxRecDepth 100000 in
set_option maxHeartbeats 4000000 in
theorem hex_any (xs : List (BitVec 8)) (hl : xs.length = 64) (w : World) : Calls Tryd.prog 44 #[.string (strB xs)] w (RetB w (hexN xs 32)) := by
  have hss := strB_size xs
  rw [hl] at hss
  obtain ⟨S, hS⟩ : ∃ S, strB xs = S := ⟨_, rfl⟩
  rw [hS] at hss ⊢
  have HS := Lib.hid hS
  have HL := Lib.hid hl
  have HN := Lib.hid (fun k => hexN_succ xs k)
  have HNL := Lib.hid (fun k => hexN_length xs k)
  clear hS hl
  go_enter Tryd.func44, Tryd.ntmps44
  go_wp2
  go_loopw [3, 4] (fun s3 s4 wr => ∃ k p : Nat, p = 2 * k ∧ k ≤ 32 ∧ s4 = .int .i64 (p : Int) ∧ Hid (OwnB 5 w.heap.size wr s3 (hexN xs k)) ∧ Hid (Below w.heap.size w wr)) (fun _ s4 _ => 70 - (intOf s4).toNat)
  case atStart => exact ⟨0, 0, rfl, by omega, rfl, OwnB.nil _ _ _, Below.refl _ _⟩
  case round =>
    obtain ⟨k, p, hp, hk, rfl, HO, HB⟩ := hrel
    by_cases hlt : p < 64
    · have hlt' : (p : Int) + 1 < 64 := by omega
      go_upto_region 5 with fail
      clear hlt'
      obtain ⟨q, hq⟩ : ∃ q, p + 1 = q := ⟨_, rfl⟩
      have hw : IntKind.i64.wrap ((p : Int) + 1) = (q : Int) := by rw [IntKind.wrap_i64]; omega
      have HPL := Lib.hid (show p < xs.length ∧ q < xs.length by rw [HL.out]; omega)
      obtain ⟨cp, hcp⟩ : ∃ c, xs.getD p 0 = c := ⟨_, rfl⟩
      obtain ⟨cq, hcq⟩ : ∃ c, xs.getD q 0 = c := ⟨_, rfl⟩
      have hn := HN.out k
      rw [← hp, hq, hcp, hcq] at hn
      unfold hexB at hn
      obtain ⟨dp, hdp⟩ : ∃ d, hdig cp = d := ⟨_, rfl⟩
      obtain ⟨dq, hdq⟩ : ∃ d, hdig cq = d := ⟨_, rfl⟩
      rw [hdp, hdq] at hn
      have HD1 := Lib.hid (fun W => digit_any cp W)
      have HD2 := Lib.hid (fun W => digit_any cq W)
      rw [hdp] at HD1
      rw [hdq] at HD2
      have hm0 : 16 * bv dp % 256 = bv (16 * dp) := by
        unfold bv
        rw [BitVec.toNat_mul]
        simp
      have hm1 : IntKind.u8.wrap (16 * bv dp) = bv (16 * dp) := by rw [wrap_u8_mod]; exact hm0
      have ha0 : (bv (16 * dp) + bv dq) % 256 = bv (16 * dp + dq) := by
        generalize 16 * dp = m
        unfold bv
        rw [BitVec.toNat_add]
        omega
      have ha1 : IntKind.u8.wrap (bv (16 * dp) + bv dq) = bv (16 * dp + dq) := by rw [wrap_u8_mod]; exact ha0
      generalize 16 * dp = m at *
      generalize m + dq = x at *
      have HCP := Lib.hid hcp
      have HCQ := Lib.hid hcq
      have HH := Lib.hid hn
      have HP := Lib.hid (And.intro hp hq)
      have hsz := HB.out.size
      clear hcp hcq hdp hdq hn hp hq
      -- REG H BEGIN
      refine wp_region_held_drew (S := fun _ => True) (by kernel_rfl) (trivial) (fun hHeld => ?_)
      refine wpAnyH_take (i := 0) (v := ?v1) rfl (by kernel_rfl) (by kernel_rfl) (by kernel_rfl) (fun _ _ _ h => h) (Or.inl ⟨by rfl, ?y1⟩) (by assumption) ?r1
      case y1 =>
        intro w' hSw
        go_split_ands
        go_simp
        try with_reducible rfl
      try simp only [List.getElem_toArray, List.getElem_cons_zero, List.getElem_cons_succ, Act.put, List.setIfInBounds_toArray, List.set_cons_zero, List.set_cons_succ]
      refine wpAnyH_take (i := 1) (v := ?v2) rfl (by kernel_rfl) (by kernel_rfl) (by kernel_rfl) (fun _ _ _ h => h) (Or.inl ⟨by rfl, ?y2⟩) (by assumption) ?r2
      case y2 =>
        intro w' hSw
        go_split_ands
        go_simp
        try with_reducible rfl
      try simp only [List.getElem_toArray, List.getElem_cons_zero, List.getElem_cons_succ, Act.put, List.setIfInBounds_toArray, List.set_cons_zero, List.set_cons_succ]
      refine wpAnyH_take (i := 2) (v := ?v3) rfl (by kernel_rfl) (by kernel_rfl) (by kernel_rfl) (fun _ _ _ h => h) (Or.inl ⟨by rfl, ?y3⟩) (by assumption) ?r3
      case y3 =>
        intro w' hSw
        go_split_ands
        go_simp
        try with_reducible rfl
      try simp only [List.getElem_toArray, List.getElem_cons_zero, List.getElem_cons_succ, Act.put, List.setIfInBounds_toArray, List.set_cons_zero, List.set_cons_succ]
      refine wpAnyH_take (i := 3) rfl (by kernel_rfl) (by kernel_rfl) (by kernel_rfl) (fun _ _ _ h => h) (yields_index_str (by rfl) 9 (.tmp 13) (.tmp 14) rfl xs S HS.out rfl p rfl HPL.out.1 _ HCP.out) (by assumption) ?_
      try simp only [List.getElem_toArray, List.getElem_cons_zero, List.getElem_cons_succ, Act.put, List.setIfInBounds_toArray, List.set_cons_zero, List.set_cons_succ]
      refine wpAnyH_take (i := 6) (v := ?v4) rfl (by kernel_rfl) (by kernel_rfl) (by kernel_rfl) (fun _ _ _ h => h) (Or.inl ⟨by rfl, ?y4⟩) (by assumption) ?r4
      case y4 =>
        intro w' hSw
        go_split_ands
        go_simp
        try with_reducible rfl
      try simp only [List.getElem_toArray, List.getElem_cons_zero, List.getElem_cons_succ, Act.put, List.setIfInBounds_toArray, List.set_cons_zero, List.set_cons_succ]
      refine wpAnyH_take (i := 7) (v := ?v5) rfl (by kernel_rfl) (by kernel_rfl) (by kernel_rfl) (fun _ _ _ h => h) (Or.inl ⟨by rfl, ?y5⟩) (by assumption) ?r5
      case y5 =>
        intro w' hSw
        go_split_ands
        go_simp
        try with_reducible rfl
      try simp only [List.getElem_toArray, List.getElem_cons_zero, List.getElem_cons_succ, Act.put, List.setIfInBounds_toArray, List.set_cons_zero, List.set_cons_succ]
      refine wpAnyH_take (i := 8) (v := ?v6) rfl (by kernel_rfl) (by kernel_rfl) (by kernel_rfl) (fun _ _ _ h => h) (Or.inl ⟨by rfl, ?y6⟩) (by assumption) ?r6
      case y6 =>
        intro w' hSw
        go_split_ands
        go_simp
        try with_reducible rfl
      try simp only [List.getElem_toArray, List.getElem_cons_zero, List.getElem_cons_succ, Act.put, List.setIfInBounds_toArray, List.set_cons_zero, List.set_cons_succ]
      refine wpAnyH_take (i := 9) rfl (by kernel_rfl) (by kernel_rfl) (by kernel_rfl) (fun _ _ _ h => h) (yields_index_str (by rfl) 9 (.tmp 18) (.tmp 20) rfl xs S HS.out rfl q rfl HPL.out.2 _ HCQ.out) (by assumption) ?_
      try simp only [List.getElem_toArray, List.getElem_cons_zero, List.getElem_cons_succ, Act.put, List.setIfInBounds_toArray, List.set_cons_zero, List.set_cons_succ]
      refine wpAnyH_ready (rs := [4]) (by kernel_rfl) (by simp) ?_
      refine AllReadyH.cons (i := 4) rfl (fun K hK => ?_) AllReadyH.nil
      go_simp
      go_at_call 73
      refine (HD1.out _).mono ?_
      rintro e wa ⟨rfl, rfl⟩
      refine hK.out _ _ (trivial) (fun hHeld' => ?_)
      clear hHeld hK K
      have hHeld := hHeld'
      clear hHeld'
      try simp only [List.getElem_toArray, List.getElem_cons_zero, List.getElem_cons_succ, Act.put, List.setIfInBounds_toArray, List.set_cons_zero, List.set_cons_succ]
      refine wpAnyH_take (i := 5) (v := ?v7) rfl (by kernel_rfl) (by kernel_rfl) (by kernel_rfl) (fun _ _ _ h => h) (Or.inl ⟨by rfl, ?y7⟩) (by assumption) ?r7
      case y7 =>
        intro w' hSw
        go_split_ands
        go_simp
        try with_reducible rfl
      try simp only [List.getElem_toArray, List.getElem_cons_zero, List.getElem_cons_succ, Act.put, List.setIfInBounds_toArray, List.set_cons_zero, List.set_cons_succ]
      refine wpAnyH_ready (rs := [10]) (by kernel_rfl) (by simp) ?_
      refine AllReadyH.cons (i := 10) rfl (fun K hK => ?_) AllReadyH.nil
      go_simp
      go_at_call 73
      refine (HD2.out _).mono ?_
      rintro e wb ⟨rfl, rfl⟩
      refine hK.out _ _ (trivial) (fun hHeld' => ?_)
      clear hHeld hK K
      have hHeld := hHeld'
      clear hHeld'
      try simp only [List.getElem_toArray, List.getElem_cons_zero, List.getElem_cons_succ, Act.put, List.setIfInBounds_toArray, List.set_cons_zero, List.set_cons_succ]
      refine wpAnyH_take (i := 11) (v := ?v8) rfl (by kernel_rfl) (by kernel_rfl) (by kernel_rfl) (fun _ _ _ h => h) (Or.inl ⟨by rfl, ?y8⟩) (by assumption) ?r8
      case y8 =>
        intro w' hSw
        go_split_ands
        go_simp
        try with_reducible rfl
      try simp only [List.getElem_toArray, List.getElem_cons_zero, List.getElem_cons_succ, Act.put, List.setIfInBounds_toArray, List.set_cons_zero, List.set_cons_succ]
      refine wpAnyH_ready (rs := [12]) (by kernel_rfl) (by simp) ?_
      refine AllReadyH.cons (i := 12) rfl (fun K hK => ?_) AllReadyH.nil
      go_simp
      refine hK.out _ _ (trivial) (fun hHeld' => ?_)
      clear hHeld hK K
      have hHeld := hHeld'
      clear hHeld'
      try simp only [List.getElem_toArray, List.getElem_cons_zero, List.getElem_cons_succ, Act.put, List.setIfInBounds_toArray, List.set_cons_zero, List.set_cons_succ]
      refine wpAnyH_ready (rs := [13]) (by kernel_rfl) (by simp) ?_
      refine AllReadyH.cons (i := 13) rfl (fun K hK => ?_) AllReadyH.nil
      refine any_of_list (by rfl) (fun Q' hQ' => ?_)
      try simp only [List.getElem_toArray, List.getElem_cons_zero, List.getElem_cons_succ]
      refine wpList_append_b rfl (.tmp 12) (.tmp 24) 22 5 rfl Tryd.underlying22 info_u8 w.heap.size _ _ (show OwnB 5 w.heap.size (wr.alloc (.cells #[.int .u8 (bv x)] 5)).drew _ _ from HO.out.alloc _) rfl _ [x] (show SlB (wr.alloc (.cells #[.int .u8 (bv x)] 5)).drew _ [x] from one_new' wr _ x rfl) rfl (by rw [HNL.out]; simp; omega) (show w.heap.size ≤ (wr.alloc (.cells #[.int .u8 (bv x)] 5)).heap.size by simp; omega) ?_
      intro v9 w9 ho hg hn'
      have HO9 := Lib.hid ho
      have HB9 := Lib.hid ((Below.alloc HB.out hsz _).drew.grown hg (show w.heap.size ≤ (wr.alloc (.cells #[.int .u8 (bv x)] 5)).heap.size by simp; omega) (fun k e => (World.ownsRow.lt HO.out k e).1))
      clear ho hg hn'
      refine hQ' _ _ (hK.out _ _ (trivial) (fun hHeld' => ?_))
      clear hHeld hK K hQ' Q'
      have hHeld := hHeld'
      clear hHeld'
      try simp only [List.getElem_toArray, List.getElem_cons_zero, List.getElem_cons_succ, Act.put, List.setIfInBounds_toArray, List.set_cons_zero, List.set_cons_succ]
      refine wpAnyH_take (i := 14) (v := ?v9) rfl (by kernel_rfl) (by kernel_rfl) (by kernel_rfl) (fun _ _ _ h => h) (Or.inl ⟨by rfl, ?y9⟩) (by assumption) ?r9
      case y9 =>
        intro w' hSw
        go_split_ands
        go_simp
        try with_reducible rfl
      try simp only [List.getElem_toArray, List.getElem_cons_zero, List.getElem_cons_succ, Act.put, List.setIfInBounds_toArray, List.set_cons_zero, List.set_cons_succ]
      refine wpAnyH_done (by kernel_rfl) ?_ _
      -- REG H END
      rw [← HH.out] at HO9
      clear hHeld hw hm0 hm1 ha0 ha1
      go_wp2
      exact ⟨⟨k + 1, p + 2, by have := HP.out.1; omega, by have := HP.out.1; omega, by go_num, HO9, HB9⟩, by simp [intOf]; omega⟩
    · obtain rfl : p = 64 := by omega
      obtain rfl : k = 32 := by omega
      go_wp2
      go_ret
      exact ⟨_, rfl, HO.out, HB.out⟩
end Go.Proofs.YtnoilogepkelaaaDoor
