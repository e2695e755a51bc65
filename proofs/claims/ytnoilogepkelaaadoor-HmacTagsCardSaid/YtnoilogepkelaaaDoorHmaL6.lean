/-
  The law HmacTags: its walk.
-/
import Derived.Test.YtnoilogepkelaaaDoorRmB
import Derived.Test.YtnoilogepkelaaaDoorAny
import Derived.Test.YtnoilogepkelaaaDoorShaL
namespace Go.Proofs.YtnoilogepkelaaaDoor
set_option linter.unusedVariables false
set_option linter.unusedSimpArgs false
open Go Go.RowKit

set_option maxRecDepth 100000 in
set_option maxHeartbeats 4000000 in
theorem law_hmacTags {w : World} (v0 : Value) (key0 : List (BitVec 8)) (h0 : SlB w v0 key0) (v1 : Value) (text0 : List (BitVec 8)) (h1 : SlB w v1 text0) (hG : Glob w) :
    Calls Tryd.prog 15 #[v0, v1] w fun e w' => e = .returned (.bool true) ∧ Below w.heap.size w w' := by
  have hgz := hG.size
  have HC0 := Lib.hid (cut_any key0 v0 w h0)
  have HC1 := Lib.hid (cut_any text0 v1 w h1)
  have hk : (key0.take 600).length ≤ 600 := by simp; omega
  have ht : (text0.take 600).length ≤ 600 := by simp; omega
  obtain ⟨key, hkey⟩ : ∃ k, key0.take 600 = k := ⟨_, rfl⟩
  obtain ⟨text, htext⟩ : ∃ k, text0.take 600 = k := ⟨_, rfl⟩
  rw [hkey] at HC0 hk
  rw [htext] at HC1 ht
  have HAW := Lib.hid (fun W (hB : Below w.heap.size w W) => hworks_any W (hG.below hB hgz))
  have HMA := Lib.hid (fun u0 u1 W (a : SlB W u0 key) (b : SlB W u1 text) (hB : Below w.heap.size w W) => hmac_any key text u0 u1 W a b (by omega) (by omega) (hG.below hB hgz))
  have HRM := Lib.hid (fun u0 u1 W (a : SlB W u0 key) (b : SlB W u1 text) => rhmac_any key text u0 u1 W a b (by omega) (by omega))
  have HEQ := Lib.hid (fun W => run_eql_hash (n := 32) Tryd.underlying32 (by kernel_rfl) (Hma.tag key text) (Hma.tag_length _ _) W)
  obtain ⟨T, hT⟩ : ∃ T, bytes (Hma.tag key text) = T := ⟨_, rfl⟩
  rw [hT] at HEQ
  simp only [hT] at HMA HRM
  obtain ⟨SK, hSK⟩ : ∃ s, strB key = s := ⟨_, rfl⟩
  obtain ⟨ST, hST⟩ : ∃ s, strB text = s := ⟨_, rfl⟩
  obtain ⟨q, hq, hd1⟩ : ∃ q : Bool, (∀ u0 u1 W, SlB W u0 key → SlB W u1 text → Calls Tryd.prog 43 #[u0, u1] W fun e w' => e = .returned (.bool q) ∧ Below W.heap.size W w') ∧ (SK.toList == ST.toList) = q := by
    by_cases e : key = text
    · subst e
      have e2 : SK = ST := hSK.symm.trans hST
      exact ⟨true, fun u0 u1 W a b => equal_yes key u0 u1 W a b (by omega), by rw [e2]; exact beq_self_eq_true _⟩
    · have e2 : ¬ SK = ST := fun h => e (strB_inj (hSK.trans (h.trans hST.symm)))
      exact ⟨false, fun u0 u1 W a b => equal_no key text e u0 u1 W a b (by omega), beq_eq_false_iff_ne.2 fun h => e2 (by rw [ByteArray.toList_eq, ByteArray.toList_eq] at h; exact ByteArray.ext (Array.toList_inj.1 h))⟩
  have HQ := Lib.hid hq
  have HD := Lib.hid hd1
  have HSK := Lib.hid hSK
  have HST := Lib.hid hST
  have hq1 := fun x y W => (HEQ.out W).1 x y
  have hq2 := fun W => (HEQ.out W).2
  clear h0 h1 hG hk ht hkey htext hT hSK hST hq hd1 HEQ
  go_enter Tryd.func15, Tryd.ntmps15
  go_upto_region 2 with (first
    | (go_at_call 40; (with_reducible refine Calls.mono HC0.out ?_); rintro e w' ⟨u0, rfl, hu, rfl⟩; have HU0 := Lib.hid hu; clear hu)
    | (go_at_call 40; (with_reducible refine Calls.mono HC1.out ?_); rintro e w' ⟨u1, rfl, hu, rfl⟩; have HU1 := Lib.hid hu; clear hu))
  have HK0 := Lib.hid (fun W (h : Below w.heap.size w W) => HU0.out.below h (Nat.le_refl _))
  have HK1 := Lib.hid (fun W (h : Below w.heap.size w W) => HU1.out.below h (Nat.le_refl _))
  clear HC0 HC1 HU0 HU1
  -- REG A BEGIN
  refine wp_region_held_drew (S := fun W => Below w.heap.size w W) (by kernel_rfl) ((Below.refl w.heap.size w).drew) (fun hHeld => ?_)
  refine wpAnyH_take (i := 0) (v := ?v1) rfl (by kernel_rfl) (by kernel_rfl) (by kernel_rfl) (fun _ _ _ h => h) (Or.inl ⟨by rfl, ?y1⟩) (by assumption) ?r1
  case y1 =>
    intro w' hSw
    go_split_ands
    go_simp
    try with_reducible rfl
  try simp only [List.getElem_toArray, List.getElem_cons_zero, List.getElem_cons_succ, Act.put, List.setIfInBounds_toArray, List.set_cons_zero, List.set_cons_succ]
  refine wpAnyH_take (i := 1) (v := ?v2) rfl (by kernel_rfl) (by kernel_rfl) (by kernel_rfl) (fun _ _ _ h => h) (Or.inl ⟨by rfl, ?y2⟩) (by assumption) ?r2
  case y2 =>
    intro w' hSw
    go_split_ands
    go_simp
    try with_reducible rfl
  try simp only [List.getElem_toArray, List.getElem_cons_zero, List.getElem_cons_succ, Act.put, List.setIfInBounds_toArray, List.set_cons_zero, List.set_cons_succ]
  refine wpAnyH_take (i := 3) (v := ?v3) rfl (by kernel_rfl) (by kernel_rfl) (by kernel_rfl) (fun _ _ _ h => h) (Or.inl ⟨by rfl, ?y3⟩) (by assumption) ?r3
  case y3 =>
    intro w' hSw
    go_split_ands
    go_simp
    try with_reducible rfl
  try simp only [List.getElem_toArray, List.getElem_cons_zero, List.getElem_cons_succ, Act.put, List.setIfInBounds_toArray, List.set_cons_zero, List.set_cons_succ]
  refine wpAnyH_take (i := 4) (v := ?v4) rfl (by kernel_rfl) (by kernel_rfl) (by kernel_rfl) (fun _ _ _ h => h) (Or.inl ⟨by rfl, ?y4⟩) (by assumption) ?r4
  case y4 =>
    intro w' hSw
    go_split_ands
    go_simp
    try with_reducible rfl
  try simp only [List.getElem_toArray, List.getElem_cons_zero, List.getElem_cons_succ, Act.put, List.setIfInBounds_toArray, List.set_cons_zero, List.set_cons_succ]
  refine wpAnyH_ready (rs := [2]) (by kernel_rfl) (by simp) ?_
  refine AllReadyH.cons (i := 2) rfl (fun K hK => ?_) AllReadyH.nil
  go_simp
  go_at_call 41
  (with_reducible refine Calls.mono (HMA.out _ _ _ (HK0.out _ ((Below.refl w.heap.size w).drew)) (HK1.out _ ((Below.refl w.heap.size w).drew)) ((Below.refl w.heap.size w).drew)) ?_)
  rintro e w_1 ⟨rfl, hb⟩
  have HB_2 := Lib.hid (((Below.refl w.heap.size w).drew).trans (hb.mono ((Below.refl w.heap.size w).drew).size))
  clear hb
  refine hK.out _ _ (HB_2.out) (fun hHeld' => ?_)
  clear hHeld hK K
  have hHeld := hHeld'
  clear hHeld'
  try simp only [List.getElem_toArray, List.getElem_cons_zero, List.getElem_cons_succ, Act.put, List.setIfInBounds_toArray, List.set_cons_zero, List.set_cons_succ]
  refine wpAnyH_ready (rs := [5]) (by kernel_rfl) (by simp) ?_
  refine AllReadyH.cons (i := 5) rfl (fun K hK => ?_) AllReadyH.nil
  go_simp
  go_at_call 47
  (with_reducible refine Calls.mono (HRM.out _ _ _ (HK0.out _ (HB_2.out)) (HK1.out _ (HB_2.out))) ?_)
  rintro e w_3 ⟨rfl, hb⟩
  have HB_4 := Lib.hid ((HB_2.out).trans (hb.mono (HB_2.out).size))
  clear hb
  refine hK.out _ _ (HB_4.out) (fun hHeld' => ?_)
  clear hHeld hK K
  have hHeld := hHeld'
  clear hHeld'
  try simp only [List.getElem_toArray, List.getElem_cons_zero, List.getElem_cons_succ, Act.put, List.setIfInBounds_toArray, List.set_cons_zero, List.set_cons_succ]
  refine wpAnyH_take (i := 6) (v := ?v5) rfl (by kernel_rfl) (by kernel_rfl) (by kernel_rfl) (fun _ _ _ h => h) (Or.inl ⟨by rfl, ?y5⟩) (by assumption) ?r5
  case y5 =>
    intro w' hSw
    go_split_ands
    go_simp
    try with_reducible rfl
  try simp only [List.getElem_toArray, List.getElem_cons_zero, List.getElem_cons_succ, Act.put, List.setIfInBounds_toArray, List.set_cons_zero, List.set_cons_succ]
  refine wpAnyH_take (i := 7) (v := ?v6) rfl (by kernel_rfl) (by kernel_rfl) (by kernel_rfl) (fun _ _ _ h => h) (Or.inl ⟨by rfl, ?y6⟩) (by assumption) ?r6
  case y6 =>
    intro w' hSw
    go_split_ands
    go_simp
    try with_reducible rfl
  try simp only [List.getElem_toArray, List.getElem_cons_zero, List.getElem_cons_succ, Act.put, List.setIfInBounds_toArray, List.set_cons_zero, List.set_cons_succ]
  refine wpAnyH_take (i := 8) (v := ?v7) rfl (by kernel_rfl) (by kernel_rfl) (by kernel_rfl) (fun _ _ _ h => h) (Or.inl ⟨by rfl, ?y7⟩) (by assumption) ?r7
  case y7 =>
    intro w' hSw
    go_split_ands
    go_simp
    try with_reducible rfl
  try simp only [List.getElem_toArray, List.getElem_cons_zero, List.getElem_cons_succ, Act.put, List.setIfInBounds_toArray, List.set_cons_zero, List.set_cons_succ]
  refine wpAnyH_take (i := 9) (v := ?v8) rfl (by kernel_rfl) (by kernel_rfl) (by kernel_rfl) (fun _ _ _ h => h) (Or.inl ⟨by rfl, ?y8⟩) (by assumption) ?r8
  case y8 =>
    intro w' hSw
    go_split_ands
    go_simp
    try with_reducible rfl
  try simp only [List.getElem_toArray, List.getElem_cons_zero, List.getElem_cons_succ, Act.put, List.setIfInBounds_toArray, List.set_cons_zero, List.set_cons_succ]
  refine wpAnyH_take (i := 11) (v := ?v9) rfl (by kernel_rfl) (by kernel_rfl) (by kernel_rfl) (fun _ _ _ h => h) (Or.inl ⟨by rfl, ?y9⟩) (by assumption) ?r9
  case y9 =>
    intro w' hSw
    go_split_ands
    go_simp
    try with_reducible rfl
  try simp only [List.getElem_toArray, List.getElem_cons_zero, List.getElem_cons_succ, Act.put, List.setIfInBounds_toArray, List.set_cons_zero, List.set_cons_succ]
  refine wpAnyH_take (i := 12) (v := ?v10) rfl (by kernel_rfl) (by kernel_rfl) (by kernel_rfl) (fun _ _ _ h => h) (Or.inl ⟨by rfl, ?y10⟩) (by assumption) ?r10
  case y10 =>
    intro w' hSw
    have kc := conv_any (HK0.out w' hSw)
    rw [HSK.out] at kc
    go_split_ands
    go_simp
    try with_reducible rfl
  try simp only [List.getElem_toArray, List.getElem_cons_zero, List.getElem_cons_succ, Act.put, List.setIfInBounds_toArray, List.set_cons_zero, List.set_cons_succ]
  refine wpAnyH_take (i := 13) (v := ?v11) rfl (by kernel_rfl) (by kernel_rfl) (by kernel_rfl) (fun _ _ _ h => h) (Or.inl ⟨by rfl, ?y11⟩) (by assumption) ?r11
  case y11 =>
    intro w' hSw
    go_split_ands
    go_simp
    try with_reducible rfl
  try simp only [List.getElem_toArray, List.getElem_cons_zero, List.getElem_cons_succ, Act.put, List.setIfInBounds_toArray, List.set_cons_zero, List.set_cons_succ]
  refine wpAnyH_take (i := 14) (v := ?v12) rfl (by kernel_rfl) (by kernel_rfl) (by kernel_rfl) (fun _ _ _ h => h) (Or.inl ⟨by rfl, ?y12⟩) (by assumption) ?r12
  case y12 =>
    intro w' hSw
    have kc := conv_any (HK1.out w' hSw)
    rw [HST.out] at kc
    go_split_ands
    go_simp
    try with_reducible rfl
  try simp only [List.getElem_toArray, List.getElem_cons_zero, List.getElem_cons_succ, Act.put, List.setIfInBounds_toArray, List.set_cons_zero, List.set_cons_succ]
  refine wpAnyH_take (i := 15) (v := ?v13) rfl (by kernel_rfl) (by kernel_rfl) (by kernel_rfl) (fun _ _ _ h => h) (Or.inl ⟨by rfl, ?y13⟩) (by assumption) ?r13
  case y13 =>
    intro w' hSw
    have hd1 := HD.out
    go_split_ands
    go_simp
    try with_reducible rfl
  try simp only [List.getElem_toArray, List.getElem_cons_zero, List.getElem_cons_succ, Act.put, List.setIfInBounds_toArray, List.set_cons_zero, List.set_cons_succ]
  refine wpAnyH_ready (rs := [10]) (by kernel_rfl) (by simp) ?_
  refine AllReadyH.cons (i := 10) rfl (fun K hK => ?_) AllReadyH.nil
  go_simp
  go_at_call 43
  (with_reducible refine Calls.mono (HQ.out _ _ _ (HK0.out _ (HB_4.out)) (HK1.out _ (HB_4.out))) ?_)
  rintro e w_5 ⟨rfl, hb⟩
  have HB_6 := Lib.hid ((HB_4.out).trans (hb.mono (HB_4.out).size))
  clear hb
  refine hK.out _ _ (HB_6.out) (fun hHeld' => ?_)
  clear hHeld hK K
  have hHeld := hHeld'
  clear hHeld'
  try simp only [List.getElem_toArray, List.getElem_cons_zero, List.getElem_cons_succ, Act.put, List.setIfInBounds_toArray, List.set_cons_zero, List.set_cons_succ]
  refine wpAnyH_take (i := 16) (v := ?v14) rfl (by kernel_rfl) (by kernel_rfl) (by kernel_rfl) (fun _ _ _ h => h) (Or.inl ⟨by rfl, ?y14⟩) (by assumption) ?r14
  case y14 =>
    intro w' hSw
    go_split_ands
    go_simp
    try with_reducible rfl
  try simp only [List.getElem_toArray, List.getElem_cons_zero, List.getElem_cons_succ, Act.put, List.setIfInBounds_toArray, List.set_cons_zero, List.set_cons_succ]
  refine wpAnyH_take (i := 17) (v := ?v15) rfl (by kernel_rfl) (by kernel_rfl) (by kernel_rfl) (fun _ _ _ h => h) (Or.inl ⟨by rfl, ?y15⟩) (by assumption) ?r15
  case y15 =>
    intro w' hSw
    go_split_ands
    go_simp
    try with_reducible rfl
  try simp only [List.getElem_toArray, List.getElem_cons_zero, List.getElem_cons_succ, Act.put, List.setIfInBounds_toArray, List.set_cons_zero, List.set_cons_succ]
  refine wpAnyH_take (i := 18) (v := ?v16) rfl (by kernel_rfl) (by kernel_rfl) (by kernel_rfl) (fun _ _ _ h => h) (Or.inl ⟨by rfl, ?y16⟩) (by assumption) ?r16
  case y16 =>
    intro w' hSw
    go_split_ands
    go_simp
    try with_reducible rfl
  try simp only [List.getElem_toArray, List.getElem_cons_zero, List.getElem_cons_succ, Act.put, List.setIfInBounds_toArray, List.set_cons_zero, List.set_cons_succ]
  refine wpAnyH_ready (rs := [19]) (by kernel_rfl) (by simp) ?_
  refine AllReadyH.cons (i := 19) rfl (fun K hK => ?_) AllReadyH.nil
  go_simp
  go_at_call 42
  (with_reducible refine Calls.mono (HAW.out _ (HB_6.out)) ?_)
  rintro e w_7 ⟨rfl, hb⟩
  have HB_8 := Lib.hid ((HB_6.out).trans (hb.mono (HB_6.out).size))
  clear hb
  refine hK.out _ _ (HB_8.out) (fun hHeld' => ?_)
  clear hHeld hK K
  have hHeld := hHeld'
  clear hHeld'
  try simp only [List.getElem_toArray, List.getElem_cons_zero, List.getElem_cons_succ, Act.put, List.setIfInBounds_toArray, List.set_cons_zero, List.set_cons_succ]
  refine wpAnyH_take (i := 20) (v := ?v17) rfl (by kernel_rfl) (by kernel_rfl) (by kernel_rfl) (fun _ _ _ h => h) (Or.inl ⟨by rfl, ?y17⟩) (by assumption) ?r17
  case y17 =>
    intro w' hSw
    go_split_ands
    go_simp
    try with_reducible rfl
  try simp only [List.getElem_toArray, List.getElem_cons_zero, List.getElem_cons_succ, Act.put, List.setIfInBounds_toArray, List.set_cons_zero, List.set_cons_succ]
  refine wpAnyH_take (i := 21) (v := ?v18) rfl (by kernel_rfl) (by kernel_rfl) (by kernel_rfl) (fun _ _ _ h => h) (Or.inl ⟨by rfl, ?y18⟩) (by assumption) ?r18
  case y18 =>
    intro w' hSw
    go_split_ands
    go_simp
    try with_reducible rfl
  try simp only [List.getElem_toArray, List.getElem_cons_zero, List.getElem_cons_succ, Act.put, List.setIfInBounds_toArray, List.set_cons_zero, List.set_cons_succ]
  refine wpAnyH_done (by kernel_rfl) ?_ _
  go_wp2
  go_ret
  exact ⟨rfl, HB_8.out⟩
  -- REG A END
end Go.Proofs.YtnoilogepkelaaaDoor
