/-
  sha.small, large, next: words turned, shifted, and the ring of sixteen.
-/
import Derived.Test.YtnoilogepkelaaaDoorRot
import Derived.Test.YtnoilogepkelaaaDoorKept
import Derived.Test.YtnoilogepkelaaaDoorShaN
import Derived.Deep.QuietTactic
import Derived.BigQuiet
import Derived.Deep.RegionHeld3
import Derived.Deep.DeepCutAuto
namespace Go.Proofs.YtnoilogepkelaaaDoor
set_option linter.unusedVariables false
set_option linter.unusedSimpArgs false
open Go Go.RowKit
attribute [local go_sem] u32_add u32_sub u32_xor u32_or u32_and' u32_shl u32_shr

theorem large_any (x : BitVec 32) (a b c : Nat) (ha : a ≤ 32) (hb : b ≤ 32) (hc : c ≤ 32) (h0 : 0 < a) (h1 : 0 < b) (h2 : 0 < c) (w : World) :
    Calls Tryd.prog 60 #[.int .u32 (wv x), .int .i64 (a : Int), .int .i64 (b : Int), .int .i64 (c : Int)] w fun e w' => e = .returned (.int .u32 (wv (Sha.large x a b c))) ∧ w = w' := by
  have HR := Lib.hid (fun (n : Nat) (h0 : 0 < n) (hn : n ≤ 32) (w : World) => (show Calls Tryd.prog 87 #[.int .u32 (wv x), .int .i64 (-(n : Int))] w fun e w' => e = .returned (.int .u32 (wv (Sha.rr x n))) ∧ w = w' from by
    have h := rotl_any x (-(n : Int)) w
    rw [show ((-(n : Int)) % 32).toNat = if n = 32 then 0 else 32 - n by split <;> omega] at h
    unfold Sha.rr
    by_cases e : n = 32
    · subst e; exact h
    · rw [if_neg e] at h; exact h))
  have HL := Lib.hid (show Sha.large x a b c = Sha.rr x a ^^^ Sha.rr x b ^^^ Sha.rr x c from rfl)
  generalize Sha.large x a b c = L at *
  go_enter Tryd.func60, Tryd.ntmps60
  go_wp2_with (first
    | (go_at_call 87; with_reducible refine Calls.mono (HR.out a h0 ha _) ?_; rintro e w' ⟨rfl, rfl⟩)
    | (go_at_call 87; with_reducible refine Calls.mono (HR.out b h1 hb _) ?_; rintro e w' ⟨rfl, rfl⟩)
    | (go_at_call 87; with_reducible refine Calls.mono (HR.out c h2 hc _) ?_; rintro e w' ⟨rfl, rfl⟩))
  go_ret
  exact ⟨ret_int (by rw [HL.out]), rfl⟩

theorem rr_call (x : BitVec 32) (n : Nat) (h0 : 0 < n) (hn : n ≤ 32) (w : World) : Calls Tryd.prog 87 #[.int .u32 (wv x), .int .i64 (-(n : Int))] w fun e w' => e = .returned (.int .u32 (wv (Sha.rr x n))) ∧ w' = w := by
  have h := rotl_any x (-(n : Int)) w
  rw [show ((-(n : Int)) % 32).toNat = if n = 32 then 0 else 32 - n by split <;> omega] at h
  unfold Sha.rr
  by_cases e : n = 32
  · subst e; exact h.mono fun e w' h => ⟨h.1, h.2.symm⟩
  · rw [if_neg e] at h; exact h.mono fun e w' h => ⟨h.1, h.2.symm⟩
theorem shr_num (x : BitVec 32) (n : Nat) : wv x / (2 ^ n : Nat) = wv (x >>> n) := by
  simp only [wv, BitVec.toNat_ushiftRight, Nat.shiftRight_eq_div_pow]
  omega

set_option maxRecDepth 100000 in
set_option maxHeartbeats 1000000 in
theorem small_0 (x : BitVec 32) (w : World) : Calls Tryd.prog 88 #[.int .u32 (wv x), .int .i64 7, .int .i64 18, .int .i64 3] w fun e w' => e = .returned (.int .u32 (wv (Sha.small x 7 18 3))) ∧ ∃ n, w' = w.drewN n := by
  have HL := Lib.hid (show Sha.small x 7 18 3 = Sha.rr x 7 ^^^ Sha.rr x 18 ^^^ x >>> 3 from rfl)
  have HA := Lib.hid (fun w => (show Calls Tryd.prog 87 #[.int .u32 (wv x), .int .i64 (-7)] w fun e w' => e = .returned (.int .u32 (wv (Sha.rr x 7))) ∧ w' = w from rr_call x 7 (by omega) (by omega) w))
  have HB := Lib.hid (fun w => (show Calls Tryd.prog 87 #[.int .u32 (wv x), .int .i64 (-18)] w fun e w' => e = .returned (.int .u32 (wv (Sha.rr x 18))) ∧ w' = w from rr_call x 18 (by omega) (by omega) w))
  generalize Sha.small x 7 18 3 = L at *
  go_enter Tryd.func88, Tryd.ntmps88
  go_wp2
  go_quiet ((first | (go_at_call 87; with_reducible exact Calls.quiet_of_same (HA.out _)) | (go_at_call 87; with_reducible exact Calls.quiet_of_same (HB.out _))))
  go_wp2
  go_ret
  have e8 : wv x / (8 : Int) = wv (x >>> 3) := by rw [← shr_num x 3]; rfl
  exact ⟨ret_int (by rw [e8, u32_xor, HL.out]), _, rfl⟩
set_option maxRecDepth 100000 in
set_option maxHeartbeats 1000000 in
theorem small_1 (x : BitVec 32) (w : World) : Calls Tryd.prog 88 #[.int .u32 (wv x), .int .i64 17, .int .i64 19, .int .i64 10] w fun e w' => e = .returned (.int .u32 (wv (Sha.small x 17 19 10))) ∧ ∃ n, w' = w.drewN n := by
  have HL := Lib.hid (show Sha.small x 17 19 10 = Sha.rr x 17 ^^^ Sha.rr x 19 ^^^ x >>> 10 from rfl)
  have HA := Lib.hid (fun w => (show Calls Tryd.prog 87 #[.int .u32 (wv x), .int .i64 (-17)] w fun e w' => e = .returned (.int .u32 (wv (Sha.rr x 17))) ∧ w' = w from rr_call x 17 (by omega) (by omega) w))
  have HB := Lib.hid (fun w => (show Calls Tryd.prog 87 #[.int .u32 (wv x), .int .i64 (-19)] w fun e w' => e = .returned (.int .u32 (wv (Sha.rr x 19))) ∧ w' = w from rr_call x 19 (by omega) (by omega) w))
  generalize Sha.small x 17 19 10 = L at *
  go_enter Tryd.func88, Tryd.ntmps88
  go_wp2
  go_quiet ((first | (go_at_call 87; with_reducible exact Calls.quiet_of_same (HA.out _)) | (go_at_call 87; with_reducible exact Calls.quiet_of_same (HB.out _))))
  go_wp2
  go_ret
  have e8 : wv x / (1024 : Int) = wv (x >>> 10) := by rw [← shr_num x 10]; rfl
  exact ⟨ret_int (by rw [e8, u32_xor, HL.out]), _, rfl⟩

set_option maxRecDepth 100000 in
set_option maxHeartbeats 4000000 in
theorem next_any (r : List (BitVec 32)) (hr : r.length = 16) (R i : Nat) (hi : i < 64) (t : TypeId) (w : World) (hR : w.heap[R]? = some (.cells (words r) t (0, 0))) :
    Calls Tryd.prog 61 #[.pointer (some ⟨R, 0, none⟩), .int .i64 (i : Int)] w fun e w' => e = .returned (.int .u32 (wv ((Sha.ringNext r i).getD (i % 16) 0))) ∧ w'.heap[R]? = some (.cells (words (Sha.ringNext r i)) t (0, 0)) ∧ Kept [R] w w' := by
  have hc : ∀ p, p < 16 → w.cell? ⟨R, p, none⟩ = some (.int .u32 (wv (r.getD p 0))) := fun p hp => (cell_of_row w R p _ _ _ hR).trans (words_get? r p (by omega))
  by_cases h16 : 16 ≤ i
  · obtain ⟨p0, hp0, l0⟩ : ∃ p, i % 16 = p ∧ p < 16 := ⟨_, rfl, by omega⟩
    obtain ⟨p1, hp1, l1⟩ : ∃ p, (i + 1) % 16 = p ∧ p < 16 := ⟨_, rfl, by omega⟩
    obtain ⟨p2, hp2, l2⟩ : ∃ p, (i + 9) % 16 = p ∧ p < 16 := ⟨_, rfl, by omega⟩
    obtain ⟨p3, hp3, l3⟩ : ∃ p, (i + 14) % 16 = p ∧ p < 16 := ⟨_, rfl, by omega⟩
    have c0 := hc p0 l0
    have c1 := hc p1 l1
    have c2 := hc p2 l2
    have c3 := hc p3 l3
    have fz := frozen_of_row w R p0 _ _ hR
    have hnew : Sha.ringNew r i = r.getD p0 0 + (Sha.small (r.getD p1 0) 7 18 3 + r.getD p2 0 + Sha.small (r.getD p3 0) 17 19 10) := by unfold Sha.ringNew; rw [hp0, hp1, hp2, hp3]
    have hset := heap_setCell_same w R p0 _ _ (.int .u32 (wv (Sha.ringNew r i))) hR
    rw [words_set] at hset
    have HSET := Lib.hid hset
    have HN : Hid (Sha.ringNext r i = r.set p0 (Sha.ringNew r i)) := Lib.hid (by unfold Sha.ringNext; rw [if_pos h16, hp0])
    have hget : (r.set p0 (Sha.ringNew r i)).getD p0 0 = Sha.ringNew r i := by simp [List.getD, List.getElem?_set, hr, l0]
    have HG := Lib.hid hget
    have HNEW := Lib.hid hnew
    generalize Sha.ringNew r i = N at *
    obtain ⟨x0, e0⟩ : ∃ x, r.getD p0 0 = x := ⟨_, rfl⟩
    obtain ⟨x1, e1⟩ : ∃ x, r.getD p1 0 = x := ⟨_, rfl⟩
    obtain ⟨x2, e2⟩ : ∃ x, r.getD p2 0 = x := ⟨_, rfl⟩
    obtain ⟨x3, e3⟩ : ∃ x, r.getD p3 0 = x := ⟨_, rfl⟩
    rw [e0] at c0 HNEW
    rw [e1] at c1 HNEW
    rw [e2] at c2 HNEW
    rw [e3] at c3 HNEW
    have m0 : (i : Int) % 16 = p0 := by omega
    have m1 : ((i : Int) + 1) % 16 = p1 := by omega
    have m2 : ((i : Int) + 9) % 16 = p2 := by omega
    have m3 : ((i : Int) + 14) % 16 = p3 := by omega
    have HP := Lib.hid hp0
    have HI0 := Lib.hid hp0
    clear hset hget hnew hp0 hp1 hp2 hp3 e0 e1 e2 e3 hc
    go_enter Tryd.func61, Tryd.ntmps61
    go_upto_region 3 with fail
    have n1 : ¬ p0 = p1 := by have := HP.out; omega
    have n2 : ¬ p0 = p2 := by have := HP.out; omega
    have n3 : ¬ p0 = p3 := by have := HP.out; omega
    have n1' : ¬ p1 = p0 := fun e => n1 e.symm
    have n2' : ¬ p2 = p0 := fun e => n2 e.symm
    have n3' : ¬ p3 = p0 := fun e => n3 e.symm
    have i0 : (p0 : Int) < 16 := by omega
    have i1 : (p1 : Int) < 16 := by omega
    have i2 : (p2 : Int) < 16 := by omega
    have i3 : (p3 : Int) < 16 := by omega
    have w1 : IntKind.i64.wrap ((i : Int) + 1) = i + 1 := by rw [IntKind.wrap_i64]; omega
    have w2 : IntKind.i64.wrap ((i : Int) + 9) = i + 9 := by rw [IntKind.wrap_i64]; omega
    have w3 : IntKind.i64.wrap ((i : Int) + 14) = i + 14 := by rw [IntKind.wrap_i64]; omega
    have v0 : IntKind.i64.wrap (p0 : Int) = p0 := by rw [IntKind.wrap_i64]; omega
    have v1 : IntKind.i64.wrap (p1 : Int) = p1 := by rw [IntKind.wrap_i64]; omega
    have v2 : IntKind.i64.wrap (p2 : Int) = p2 := by rw [IntKind.wrap_i64]; omega
    have v3 : IntKind.i64.wrap (p3 : Int) = p3 := by rw [IntKind.wrap_i64]; omega
    have t1 : ((i : Int) + 1).tmod 16 = p1 := by rw [Int.tmod_eq_emod_of_nonneg (by omega)]; omega
    have t2 : ((i : Int) + 9).tmod 16 = p2 := by rw [Int.tmod_eq_emod_of_nonneg (by omega)]; omega
    have t3 : ((i : Int) + 14).tmod 16 = p3 := by rw [Int.tmod_eq_emod_of_nonneg (by omega)]; omega
    have HA := Lib.hid (small_0 x1)
    have HB := Lib.hid (small_1 x3)
    clear hi l0 l1 l2 l3 HP
    have hN := HNEW.out
    subst hN
    have HW := Lib.hid (fun m : Nat => (show ((w.drewN m).setCell ⟨R, p0, none⟩ (.int .u32 (wv (x0 + (Sha.small x1 7 18 3 + x2 + Sha.small x3 17 19 10))))).heap[R]? = some (.cells (words (r.set p0 (x0 + (Sha.small x1 7 18 3 + x2 + Sha.small x3 17 19 10)))) t (0, 0)) from HSET.out))
    go_cut [5] (fun s5 wx => s5 = .int .i64 p0 ∧ Hid (wx.heap[R]? = some (.cells (words (r.set p0 (x0 + (Sha.small x1 7 18 3 + x2 + Sha.small x3 17 19 10)))) t (0, 0))) ∧ Hid (Kept [R] w wx))
    case first =>
      refine wp_region_held_drew (S := fun w' => w'.cell? ⟨R, p1, none⟩ = some (.int .u32 (wv x1)) ∧ w'.cell? ⟨R, p2, none⟩ = some (.int .u32 (wv x2)) ∧ w'.cell? ⟨R, p3, none⟩ = some (.int .u32 (wv x3))) (by kernel_rfl) ⟨c1, c2, c3⟩ (fun hHeld => ?_)
      refine wpAnyH_take (i := 0) (v := ?v1) rfl (by kernel_rfl) (by kernel_rfl) (by kernel_rfl) (fun _ _ _ h => h) (Or.inl ⟨by rfl, ?y1⟩) (by assumption) ?r1
      case y1 =>
        intro w' hSw
        go_split_ands
        go_simp
        try with_reducible rfl
      try simp only [List.getElem_toArray, List.getElem_cons_zero, List.getElem_cons_succ, Act.put, List.setIfInBounds_toArray, List.set_cons_zero, List.set_cons_succ]
      refine wpAnyH_take (i := 1) (v := ?v2) rfl (by kernel_rfl) (by kernel_rfl) (by kernel_rfl) (fun _ _ _ h => h) (Or.inl ⟨by rfl, ?y2⟩) (by assumption) ?r2
      case y2 =>
        intro w' hSw
        go_split_ands
        go_simp
        try with_reducible rfl
      try simp only [List.getElem_toArray, List.getElem_cons_zero, List.getElem_cons_succ, Act.put, List.setIfInBounds_toArray, List.set_cons_zero, List.set_cons_succ]
      refine wpAnyH_take (i := 2) (v := ?v3) rfl (by kernel_rfl) (by kernel_rfl) (by kernel_rfl) (fun _ _ _ h => h) (Or.inl ⟨by rfl, ?y3⟩) (by assumption) ?r3
      case y3 =>
        intro w' hSw
        go_split_ands
        go_simp
        try with_reducible rfl
      try simp only [List.getElem_toArray, List.getElem_cons_zero, List.getElem_cons_succ, Act.put, List.setIfInBounds_toArray, List.set_cons_zero, List.set_cons_succ]
      refine wpAnyH_take (i := 3) (v := ?v4) rfl (by kernel_rfl) (by kernel_rfl) (by kernel_rfl) (fun _ _ _ h => h) (Or.inl ⟨by rfl, ?y4⟩) (by assumption) ?r4
      case y4 =>
        intro w' hSw
        go_split_ands
        go_simp
        try with_reducible rfl
      try simp only [List.getElem_toArray, List.getElem_cons_zero, List.getElem_cons_succ, Act.put, List.setIfInBounds_toArray, List.set_cons_zero, List.set_cons_succ]
      refine wpAnyH_take (i := 5) (v := ?v5) rfl (by kernel_rfl) (by kernel_rfl) (by kernel_rfl) (fun _ _ _ h => h) (Or.inl ⟨by rfl, ?y5⟩) (by assumption) ?r5
      case y5 =>
        intro w' hSw
        go_split_ands
        go_simp
        try with_reducible rfl
      try simp only [List.getElem_toArray, List.getElem_cons_zero, List.getElem_cons_succ, Act.put, List.setIfInBounds_toArray, List.set_cons_zero, List.set_cons_succ]
      refine wpAnyH_take (i := 6) (v := ?v6) rfl (by kernel_rfl) (by kernel_rfl) (by kernel_rfl) (fun _ _ _ h => h) (Or.inl ⟨by rfl, ?y6⟩) (by assumption) ?r6
      case y6 =>
        intro w' hSw
        go_split_ands
        go_simp
        try with_reducible rfl
      try simp only [List.getElem_toArray, List.getElem_cons_zero, List.getElem_cons_succ, Act.put, List.setIfInBounds_toArray, List.set_cons_zero, List.set_cons_succ]
      refine wpAnyH_take (i := 7) (v := ?v7) rfl (by kernel_rfl) (by kernel_rfl) (by kernel_rfl) (fun _ _ _ h => h) (Or.inl ⟨by rfl, ?y7⟩) (by assumption) ?r7
      case y7 =>
        intro w' hSw
        go_split_ands
        go_simp
        try with_reducible rfl
      try simp only [List.getElem_toArray, List.getElem_cons_zero, List.getElem_cons_succ, Act.put, List.setIfInBounds_toArray, List.set_cons_zero, List.set_cons_succ]
      refine wpAnyH_take (i := 8) (v := ?v8) rfl (by kernel_rfl) (by kernel_rfl) (by kernel_rfl) (fun _ _ _ h => h) (Or.inl ⟨by rfl, ?y8⟩) (by assumption) ?r8
      case y8 =>
        intro w' hSw
        go_split_ands
        go_simp
        try with_reducible rfl
      try simp only [List.getElem_toArray, List.getElem_cons_zero, List.getElem_cons_succ, Act.put, List.setIfInBounds_toArray, List.set_cons_zero, List.set_cons_succ]
      refine wpAnyH_take (i := 9) (v := ?v9) rfl (by kernel_rfl) (by kernel_rfl) (by kernel_rfl) (fun _ _ _ h => h) (Or.inl ⟨by rfl, ?y9⟩) (by assumption) ?r9
      case y9 =>
        intro w' hSw
        go_split_ands
        go_simp
        try with_reducible rfl
      try simp only [List.getElem_toArray, List.getElem_cons_zero, List.getElem_cons_succ, Act.put, List.setIfInBounds_toArray, List.set_cons_zero, List.set_cons_succ]
      refine wpAnyH_take (i := 10) (v := ?v10) rfl (by kernel_rfl) (by kernel_rfl) (by kernel_rfl) (fun _ _ _ h => h) (Or.inl ⟨by rfl, ?y10⟩) (by assumption) ?r10
      case y10 =>
        intro w' hSw
        go_split_ands
        go_simp
        try with_reducible rfl
      try simp only [List.getElem_toArray, List.getElem_cons_zero, List.getElem_cons_succ, Act.put, List.setIfInBounds_toArray, List.set_cons_zero, List.set_cons_succ]
      refine wpAnyH_take (i := 11) (v := ?v11) rfl (by kernel_rfl) (by kernel_rfl) (by kernel_rfl) (fun _ _ _ h => h) (Or.inl ⟨by rfl, ?y11⟩) (by assumption) ?r11
      case y11 =>
        intro w' hSw
        go_split_ands
        go_simp
        try with_reducible rfl
      try simp only [List.getElem_toArray, List.getElem_cons_zero, List.getElem_cons_succ, Act.put, List.setIfInBounds_toArray, List.set_cons_zero, List.set_cons_succ]
      refine wpAnyH_take (i := 13) (v := ?v12) rfl (by kernel_rfl) (by kernel_rfl) (by kernel_rfl) (fun _ _ _ h => h) (Or.inl ⟨by rfl, ?y12⟩) (by assumption) ?r12
      case y12 =>
        intro w' hSw
        go_split_ands
        go_simp
        try with_reducible rfl
      try simp only [List.getElem_toArray, List.getElem_cons_zero, List.getElem_cons_succ, Act.put, List.setIfInBounds_toArray, List.set_cons_zero, List.set_cons_succ]
      refine wpAnyH_take (i := 14) (v := ?v13) rfl (by kernel_rfl) (by kernel_rfl) (by kernel_rfl) (fun _ _ _ h => h) (Or.inl ⟨by rfl, ?y13⟩) (by assumption) ?r13
      case y13 =>
        intro w' hSw
        go_split_ands
        go_simp
        try with_reducible rfl
      try simp only [List.getElem_toArray, List.getElem_cons_zero, List.getElem_cons_succ, Act.put, List.setIfInBounds_toArray, List.set_cons_zero, List.set_cons_succ]
      refine wpAnyH_take (i := 15) (v := ?v14) rfl (by kernel_rfl) (by kernel_rfl) (by kernel_rfl) (fun _ _ _ h => h) (Or.inl ⟨by rfl, ?y14⟩) (by assumption) ?r14
      case y14 =>
        intro w' hSw
        go_split_ands
        go_simp
        try with_reducible rfl
      try simp only [List.getElem_toArray, List.getElem_cons_zero, List.getElem_cons_succ, Act.put, List.setIfInBounds_toArray, List.set_cons_zero, List.set_cons_succ]
      refine wpAnyH_take (i := 16) (v := ?v15) rfl (by kernel_rfl) (by kernel_rfl) (by kernel_rfl) (fun _ _ _ h => h) (Or.inl ⟨by rfl, ?y15⟩) (by assumption) ?r15
      case y15 =>
        intro w' hSw
        go_split_ands
        go_simp
        try with_reducible rfl
      try simp only [List.getElem_toArray, List.getElem_cons_zero, List.getElem_cons_succ, Act.put, List.setIfInBounds_toArray, List.set_cons_zero, List.set_cons_succ]
      refine wpAnyH_take (i := 17) (v := ?v16) rfl (by kernel_rfl) (by kernel_rfl) (by kernel_rfl) (fun _ _ _ h => h) (Or.inl ⟨by rfl, ?y16⟩) (by assumption) ?r16
      case y16 =>
        intro w' hSw
        go_split_ands
        go_simp
        try with_reducible rfl
      try simp only [List.getElem_toArray, List.getElem_cons_zero, List.getElem_cons_succ, Act.put, List.setIfInBounds_toArray, List.set_cons_zero, List.set_cons_succ]
      refine wpAnyH_take (i := 18) (v := ?v17) rfl (by kernel_rfl) (by kernel_rfl) (by kernel_rfl) (fun _ _ _ h => h) (Or.inl ⟨by rfl, ?y17⟩) (by assumption) ?r17
      case y17 =>
        intro w' hSw
        go_split_ands
        go_simp
        try with_reducible rfl
      try simp only [List.getElem_toArray, List.getElem_cons_zero, List.getElem_cons_succ, Act.put, List.setIfInBounds_toArray, List.set_cons_zero, List.set_cons_succ]
      refine wpAnyH_take (i := 19) (v := ?v18) rfl (by kernel_rfl) (by kernel_rfl) (by kernel_rfl) (fun _ _ _ h => h) (Or.inl ⟨by rfl, ?y18⟩) (by assumption) ?r18
      case y18 =>
        intro w' hSw
        go_split_ands
        go_simp
        try with_reducible rfl
      try simp only [List.getElem_toArray, List.getElem_cons_zero, List.getElem_cons_succ, Act.put, List.setIfInBounds_toArray, List.set_cons_zero, List.set_cons_succ]
      refine wpAnyH_take (i := 21) (v := ?v19) rfl (by kernel_rfl) (by kernel_rfl) (by kernel_rfl) (fun _ _ _ h => h) (Or.inl ⟨by rfl, ?y19⟩) (by assumption) ?r19
      case y19 =>
        intro w' hSw
        go_split_ands
        go_simp
        try with_reducible rfl
      try simp only [List.getElem_toArray, List.getElem_cons_zero, List.getElem_cons_succ, Act.put, List.setIfInBounds_toArray, List.set_cons_zero, List.set_cons_succ]
      refine wpAnyH_take (i := 22) (v := ?v20) rfl (by kernel_rfl) (by kernel_rfl) (by kernel_rfl) (fun _ _ _ h => h) (Or.inl ⟨by rfl, ?y20⟩) (by assumption) ?r20
      case y20 =>
        intro w' hSw
        go_split_ands
        go_simp
        try with_reducible rfl
      try simp only [List.getElem_toArray, List.getElem_cons_zero, List.getElem_cons_succ, Act.put, List.setIfInBounds_toArray, List.set_cons_zero, List.set_cons_succ]
      refine wpAnyH_take (i := 23) (v := ?v21) rfl (by kernel_rfl) (by kernel_rfl) (by kernel_rfl) (fun _ _ _ h => h) (Or.inl ⟨by rfl, ?y21⟩) (by assumption) ?r21
      case y21 =>
        intro w' hSw
        go_split_ands
        go_simp
        try with_reducible rfl
      try simp only [List.getElem_toArray, List.getElem_cons_zero, List.getElem_cons_succ, Act.put, List.setIfInBounds_toArray, List.set_cons_zero, List.set_cons_succ]
      refine wpAnyH_take (i := 24) (v := ?v22) rfl (by kernel_rfl) (by kernel_rfl) (by kernel_rfl) (fun _ _ _ h => h) (Or.inl ⟨by rfl, ?y22⟩) (by assumption) ?r22
      case y22 =>
        intro w' hSw
        go_split_ands
        go_simp
        try with_reducible rfl
      try simp only [List.getElem_toArray, List.getElem_cons_zero, List.getElem_cons_succ, Act.put, List.setIfInBounds_toArray, List.set_cons_zero, List.set_cons_succ]
      refine wpAnyH_take (i := 25) (v := ?v23) rfl (by kernel_rfl) (by kernel_rfl) (by kernel_rfl) (fun _ _ _ h => h) (Or.inl ⟨by rfl, ?y23⟩) (by assumption) ?r23
      case y23 =>
        intro w' hSw
        go_split_ands
        go_simp
        try with_reducible rfl
      try simp only [List.getElem_toArray, List.getElem_cons_zero, List.getElem_cons_succ, Act.put, List.setIfInBounds_toArray, List.set_cons_zero, List.set_cons_succ]
      refine wpAnyH_take (i := 26) (v := ?v24) rfl (by kernel_rfl) (by kernel_rfl) (by kernel_rfl) (fun _ _ _ h => h) (Or.inl ⟨by rfl, ?y24⟩) (by assumption) ?r24
      case y24 =>
        intro w' hSw
        go_split_ands
        go_simp
        try with_reducible rfl
      try simp only [List.getElem_toArray, List.getElem_cons_zero, List.getElem_cons_succ, Act.put, List.setIfInBounds_toArray, List.set_cons_zero, List.set_cons_succ]
      refine wpAnyH_take (i := 27) (v := ?v25) rfl (by kernel_rfl) (by kernel_rfl) (by kernel_rfl) (fun _ _ _ h => h) (Or.inl ⟨by rfl, ?y25⟩) (by assumption) ?r25
      case y25 =>
        intro w' hSw
        go_split_ands
        go_simp
        try with_reducible rfl
      try simp only [List.getElem_toArray, List.getElem_cons_zero, List.getElem_cons_succ, Act.put, List.setIfInBounds_toArray, List.set_cons_zero, List.set_cons_succ]
      refine wpAnyH_take (i := 31) (v := ?v26) rfl (by kernel_rfl) (by kernel_rfl) (by kernel_rfl) (fun _ _ _ h => h) (Or.inl ⟨by rfl, ?y26⟩) (by assumption) ?r26
      case y26 =>
        intro w' hSw
        go_split_ands
        go_simp
        try with_reducible rfl
      try simp only [List.getElem_toArray, List.getElem_cons_zero, List.getElem_cons_succ, Act.put, List.setIfInBounds_toArray, List.set_cons_zero, List.set_cons_succ]
      refine wpAnyH_ready (rs := [4, 12]) (by kernel_rfl) (by simp) ?_
      refine AllReadyH.cons (i := 4) rfl (fun K hK => ?_) ?_
      · go_simp
        refine hK.out _ _ ⟨c1, c2, c3⟩ (fun hHeld' => ?_)
        clear hHeld hK K
        have hHeld := hHeld'
        clear hHeld'
        try simp only [List.getElem_toArray, List.getElem_cons_zero, List.getElem_cons_succ, Act.put, List.setIfInBounds_toArray, List.set_cons_zero, List.set_cons_succ]
        refine wpAnyH_ready (rs := [12]) (by kernel_rfl) (by simp) ?_
        refine AllReadyH.cons (i := 12) rfl (fun K hK => ?_) AllReadyH.nil
        go_simp
        go_at_call 88
        refine (HA.out _).mono ?_
        rintro e wa ⟨rfl, m1, rfl⟩
        refine hK.out _ _ ⟨c1, c2, c3⟩ (fun hHeld' => ?_)
        clear hHeld hK K
        have hHeld := hHeld'
        clear hHeld'
        try simp only [List.getElem_toArray, List.getElem_cons_zero, List.getElem_cons_succ, Act.put, List.setIfInBounds_toArray, List.set_cons_zero, List.set_cons_succ]
        refine wpAnyH_take (i := 20) (v := ?v27) rfl (by kernel_rfl) (by kernel_rfl) (by kernel_rfl) (fun _ _ _ h => h) (Or.inl ⟨by rfl, ?y27⟩) (by assumption) ?r27
        case y27 =>
          intro w' hSw
          go_split_ands
          go_simp
          try with_reducible rfl
        try simp only [List.getElem_toArray, List.getElem_cons_zero, List.getElem_cons_succ, Act.put, List.setIfInBounds_toArray, List.set_cons_zero, List.set_cons_succ]
        refine wpAnyH_ready (rs := [28]) (by kernel_rfl) (by simp) ?_
        refine AllReadyH.cons (i := 28) rfl (fun K hK => ?_) AllReadyH.nil
        go_simp
        go_at_call 88
        refine (HB.out _).mono ?_
        rintro e wa ⟨rfl, m2, rfl⟩
        refine hK.out _ _ ⟨c1, c2, c3⟩ (fun hHeld' => ?_)
        clear hHeld hK K
        have hHeld := hHeld'
        clear hHeld'
        try simp only [List.getElem_toArray, List.getElem_cons_zero, List.getElem_cons_succ, Act.put, List.setIfInBounds_toArray, List.set_cons_zero, List.set_cons_succ]
        refine wpAnyH_take (i := 29) (v := ?v28) rfl (by kernel_rfl) (by kernel_rfl) (by kernel_rfl) (fun _ _ _ h => h) (Or.inl ⟨by rfl, ?y28⟩) (by assumption) ?r28
        case y28 =>
          intro w' hSw
          go_split_ands
          go_simp
          try with_reducible rfl
        try simp only [List.getElem_toArray, List.getElem_cons_zero, List.getElem_cons_succ, Act.put, List.setIfInBounds_toArray, List.set_cons_zero, List.set_cons_succ]
        refine wpAnyH_take (i := 30) (v := ?v29) rfl (by kernel_rfl) (by kernel_rfl) (by kernel_rfl) (fun _ _ _ h => h) (Or.inl ⟨by rfl, ?y29⟩) (by assumption) ?r29
        case y29 =>
          intro w' hSw
          go_split_ands
          go_simp
          try with_reducible rfl
        try simp only [List.getElem_toArray, List.getElem_cons_zero, List.getElem_cons_succ, Act.put, List.setIfInBounds_toArray, List.set_cons_zero, List.set_cons_succ]
        refine wpAnyH_take (i := 32) (v := ?v30) rfl (by kernel_rfl) (by kernel_rfl) (by kernel_rfl) (fun _ _ _ h => h) (Or.inl ⟨by rfl, ?y30⟩) (by assumption) ?r30
        case y30 =>
          intro w' hSw
          go_split_ands
          go_simp
          try with_reducible rfl
        try simp only [List.getElem_toArray, List.getElem_cons_zero, List.getElem_cons_succ, Act.put, List.setIfInBounds_toArray, List.set_cons_zero, List.set_cons_succ]
        refine wpAnyH_ready (rs := [33]) (by kernel_rfl) (by simp) ?_
        refine AllReadyH.cons (i := 33) rfl (fun K hK => ?_) AllReadyH.nil
        go_simp
        refine hK.out _ _ ⟨by simp [*, World.cell?_setCell_other], by simp [*, World.cell?_setCell_other], by simp [*, World.cell?_setCell_other]⟩ (fun hHeld' => ?_)
        clear hHeld hK K hHeld'
        try simp only [List.getElem_toArray, List.getElem_cons_zero, List.getElem_cons_succ, Act.put, List.setIfInBounds_toArray, List.set_cons_zero, List.set_cons_succ]
        refine wpAnyH_done (by kernel_rfl) ?_ _
        go_wp2_with fail
        go_meet
        exact ⟨rfl, Lib.hid (HW.out _), Lib.hid (((Kept.refl [R] w).drewN _).setCell (by simp) _)⟩
      · refine AllReadyH.cons (i := 12) rfl (fun K hK => ?_) AllReadyH.nil
        go_simp
        go_at_call 88
        refine (HA.out _).mono ?_
        rintro e wa ⟨rfl, m1, rfl⟩
        refine hK.out _ _ ⟨c1, c2, c3⟩ (fun hHeld' => ?_)
        clear hHeld hK K
        have hHeld := hHeld'
        clear hHeld'
        try simp only [List.getElem_toArray, List.getElem_cons_zero, List.getElem_cons_succ, Act.put, List.setIfInBounds_toArray, List.set_cons_zero, List.set_cons_succ]
        refine wpAnyH_take (i := 20) (v := ?v31) rfl (by kernel_rfl) (by kernel_rfl) (by kernel_rfl) (fun _ _ _ h => h) (Or.inl ⟨by rfl, ?y31⟩) (by assumption) ?r31
        case y31 =>
          intro w' hSw
          go_split_ands
          go_simp
          try with_reducible rfl
        try simp only [List.getElem_toArray, List.getElem_cons_zero, List.getElem_cons_succ, Act.put, List.setIfInBounds_toArray, List.set_cons_zero, List.set_cons_succ]
        refine wpAnyH_ready (rs := [4, 28]) (by kernel_rfl) (by simp) ?_
        refine AllReadyH.cons (i := 4) rfl (fun K hK => ?_) ?_
        · go_simp
          refine hK.out _ _ ⟨c1, c2, c3⟩ (fun hHeld' => ?_)
          clear hHeld hK K
          have hHeld := hHeld'
          clear hHeld'
          try simp only [List.getElem_toArray, List.getElem_cons_zero, List.getElem_cons_succ, Act.put, List.setIfInBounds_toArray, List.set_cons_zero, List.set_cons_succ]
          refine wpAnyH_ready (rs := [28]) (by kernel_rfl) (by simp) ?_
          refine AllReadyH.cons (i := 28) rfl (fun K hK => ?_) AllReadyH.nil
          go_simp
          go_at_call 88
          refine (HB.out _).mono ?_
          rintro e wa ⟨rfl, m2, rfl⟩
          refine hK.out _ _ ⟨c1, c2, c3⟩ (fun hHeld' => ?_)
          clear hHeld hK K
          have hHeld := hHeld'
          clear hHeld'
          try simp only [List.getElem_toArray, List.getElem_cons_zero, List.getElem_cons_succ, Act.put, List.setIfInBounds_toArray, List.set_cons_zero, List.set_cons_succ]
          refine wpAnyH_take (i := 29) (v := ?v32) rfl (by kernel_rfl) (by kernel_rfl) (by kernel_rfl) (fun _ _ _ h => h) (Or.inl ⟨by rfl, ?y32⟩) (by assumption) ?r32
          case y32 =>
            intro w' hSw
            go_split_ands
            go_simp
            try with_reducible rfl
          try simp only [List.getElem_toArray, List.getElem_cons_zero, List.getElem_cons_succ, Act.put, List.setIfInBounds_toArray, List.set_cons_zero, List.set_cons_succ]
          refine wpAnyH_take (i := 30) (v := ?v33) rfl (by kernel_rfl) (by kernel_rfl) (by kernel_rfl) (fun _ _ _ h => h) (Or.inl ⟨by rfl, ?y33⟩) (by assumption) ?r33
          case y33 =>
            intro w' hSw
            go_split_ands
            go_simp
            try with_reducible rfl
          try simp only [List.getElem_toArray, List.getElem_cons_zero, List.getElem_cons_succ, Act.put, List.setIfInBounds_toArray, List.set_cons_zero, List.set_cons_succ]
          refine wpAnyH_take (i := 32) (v := ?v34) rfl (by kernel_rfl) (by kernel_rfl) (by kernel_rfl) (fun _ _ _ h => h) (Or.inl ⟨by rfl, ?y34⟩) (by assumption) ?r34
          case y34 =>
            intro w' hSw
            go_split_ands
            go_simp
            try with_reducible rfl
          try simp only [List.getElem_toArray, List.getElem_cons_zero, List.getElem_cons_succ, Act.put, List.setIfInBounds_toArray, List.set_cons_zero, List.set_cons_succ]
          refine wpAnyH_ready (rs := [33]) (by kernel_rfl) (by simp) ?_
          refine AllReadyH.cons (i := 33) rfl (fun K hK => ?_) AllReadyH.nil
          go_simp
          refine hK.out _ _ ⟨by simp [*, World.cell?_setCell_other], by simp [*, World.cell?_setCell_other], by simp [*, World.cell?_setCell_other]⟩ (fun hHeld' => ?_)
          clear hHeld hK K hHeld'
          try simp only [List.getElem_toArray, List.getElem_cons_zero, List.getElem_cons_succ, Act.put, List.setIfInBounds_toArray, List.set_cons_zero, List.set_cons_succ]
          refine wpAnyH_done (by kernel_rfl) ?_ _
          go_wp2_with fail
          go_meet
          exact ⟨rfl, Lib.hid (HW.out _), Lib.hid (((Kept.refl [R] w).drewN _).setCell (by simp) _)⟩
        · refine AllReadyH.cons (i := 28) rfl (fun K hK => ?_) AllReadyH.nil
          go_simp
          go_at_call 88
          refine (HB.out _).mono ?_
          rintro e wa ⟨rfl, m2, rfl⟩
          refine hK.out _ _ ⟨c1, c2, c3⟩ (fun hHeld' => ?_)
          clear hHeld hK K
          have hHeld := hHeld'
          clear hHeld'
          try simp only [List.getElem_toArray, List.getElem_cons_zero, List.getElem_cons_succ, Act.put, List.setIfInBounds_toArray, List.set_cons_zero, List.set_cons_succ]
          refine wpAnyH_take (i := 29) (v := ?v35) rfl (by kernel_rfl) (by kernel_rfl) (by kernel_rfl) (fun _ _ _ h => h) (Or.inl ⟨by rfl, ?y35⟩) (by assumption) ?r35
          case y35 =>
            intro w' hSw
            go_split_ands
            go_simp
            try with_reducible rfl
          try simp only [List.getElem_toArray, List.getElem_cons_zero, List.getElem_cons_succ, Act.put, List.setIfInBounds_toArray, List.set_cons_zero, List.set_cons_succ]
          refine wpAnyH_ready (rs := [4]) (by kernel_rfl) (by simp) ?_
          refine AllReadyH.cons (i := 4) rfl (fun K hK => ?_) AllReadyH.nil
          go_simp
          refine hK.out _ _ ⟨c1, c2, c3⟩ (fun hHeld' => ?_)
          clear hHeld hK K
          have hHeld := hHeld'
          clear hHeld'
          try simp only [List.getElem_toArray, List.getElem_cons_zero, List.getElem_cons_succ, Act.put, List.setIfInBounds_toArray, List.set_cons_zero, List.set_cons_succ]
          refine wpAnyH_take (i := 30) (v := ?v36) rfl (by kernel_rfl) (by kernel_rfl) (by kernel_rfl) (fun _ _ _ h => h) (Or.inl ⟨by rfl, ?y36⟩) (by assumption) ?r36
          case y36 =>
            intro w' hSw
            go_split_ands
            go_simp
            try with_reducible rfl
          try simp only [List.getElem_toArray, List.getElem_cons_zero, List.getElem_cons_succ, Act.put, List.setIfInBounds_toArray, List.set_cons_zero, List.set_cons_succ]
          refine wpAnyH_take (i := 32) (v := ?v37) rfl (by kernel_rfl) (by kernel_rfl) (by kernel_rfl) (fun _ _ _ h => h) (Or.inl ⟨by rfl, ?y37⟩) (by assumption) ?r37
          case y37 =>
            intro w' hSw
            go_split_ands
            go_simp
            try with_reducible rfl
          try simp only [List.getElem_toArray, List.getElem_cons_zero, List.getElem_cons_succ, Act.put, List.setIfInBounds_toArray, List.set_cons_zero, List.set_cons_succ]
          refine wpAnyH_ready (rs := [33]) (by kernel_rfl) (by simp) ?_
          refine AllReadyH.cons (i := 33) rfl (fun K hK => ?_) AllReadyH.nil
          go_simp
          refine hK.out _ _ ⟨by simp [*, World.cell?_setCell_other], by simp [*, World.cell?_setCell_other], by simp [*, World.cell?_setCell_other]⟩ (fun hHeld' => ?_)
          clear hHeld hK K hHeld'
          try simp only [List.getElem_toArray, List.getElem_cons_zero, List.getElem_cons_succ, Act.put, List.setIfInBounds_toArray, List.set_cons_zero, List.set_cons_succ]
          refine wpAnyH_done (by kernel_rfl) ?_ _
          go_wp2_with fail
          go_meet
          exact ⟨rfl, Lib.hid (HW.out _), Lib.hid (((Kept.refl [R] w).drewN _).setCell (by simp) _)⟩
    case rest =>
      obtain ⟨rfl, HX, HK⟩ := hcut
      have cx := (cell_of_row wc R p0 _ _ _ HX.out).trans (words_get? _ p0 (by rw [List.length_set, hr]; omega))
      rw [HG.out] at cx
      have hend : (Sha.ringNext r i).getD (i % 16) 0 = x0 + (Sha.small x1 7 18 3 + x2 + Sha.small x3 17 19 10) := by rw [HN.out, HI0.out, HG.out]
      have HE := Lib.hid hend
      clear c0 c1 c2 c3 fz hend hR
      go_wp2
      go_ret
      exact ⟨ret_int (congrArg wv HE.out).symm, by rw [HN.out]; exact HX.out, HK.out⟩
  · obtain ⟨p0, hp0, l0⟩ : ∃ p, i % 16 = p ∧ p < 16 := ⟨_, rfl, by omega⟩
    have c0 := hc p0 l0
    have m0 : (i : Int) % 16 = p0 := by omega
    have HN : Hid (Sha.ringNext r i = r) := Lib.hid (by unfold Sha.ringNext; rw [if_neg h16])
    have hlt : ¬ (16 : Int) ≤ (i : Int) := by omega
    obtain ⟨x0, e0⟩ : ∃ x, r.getD p0 0 = x := ⟨_, rfl⟩
    rw [e0] at c0
    have HE := Lib.hid (show (Sha.ringNext r i).getD (i % 16) 0 = x0 by rw [HN.out, hp0, e0])
    have HR := Lib.hid hR
    clear hc hp0 hR e0 hr
    go_enter Tryd.func61, Tryd.ntmps61
    go_wp2
    go_ret
    exact ⟨ret_int (congrArg wv HE.out).symm, by rw [HN.out]; exact HR.out, Kept.refl _ _⟩
end Go.Proofs.YtnoilogepkelaaaDoor
