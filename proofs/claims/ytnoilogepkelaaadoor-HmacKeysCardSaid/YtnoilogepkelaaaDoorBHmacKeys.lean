/-
  The tied card of HmacKeys.
-/
import Derived.Test.YtnoilogepkelaaaDoorBRHma
import Derived.Test.YtnoilogepkelaaaDoorBBase
import Derived.Test.YtnoilogepkelaaaDoorBSha
import Derived.Test.YtnoilogepkelaaaDoorBHma
import Derived.Deep.CutBlock
import Derived.Test.YtnoilogepkelaaaDoorRows
import Derived.Test.YtnoilogepkelaaaDoorTie
import Derived.Test.YtnoilogepkelaaaDoorCards
import Derived.SevenTiedAt
namespace Go.Proofs.YtnoilogepkelaaaDoor
set_option linter.unusedVariables false
set_option linter.unusedSimpArgs false
open Go Go.RowKit

theorem getD_map_take (xs : List (List (BitVec 8))) (f : List (BitVec 8) → List (BitVec 8)) (hf : f [] = []) (j k : Nat) (h : j < k) : ((xs.take k).map f).getD j [] = f (xs.getD j []) := by
  simp only [List.getD, List.getElem?_map, List.getElem?_take, if_pos h]
  cases xs[j]? with
  | none => simp [hf]
  | some x => rfl

theorem cut_val (a : Option Addr) (n cap : Nat) (w : World) (h1 : n ≤ cap) (h2 : cap ≤ maxLen) :
    Calls Tryd.prog 40 #[.slice a n cap] w fun e w' => e = .returned (.slice a (min n 600) cap) ∧ w = w' := by
  have hb := And.intro h1 h2
  have hl : n ≤ 600 ∨ 600 < n := by omega
  rcases hl with hl | hl
  · rw [show min n 600 = n by omega]
    clear h1 h2
    go_enter Tryd.func40, Tryd.ntmps40
    go_wp2
    go_ret
    exact ⟨rfl, rfl⟩
  · rw [show min n 600 = 600 by omega]
    clear h1 h2
    go_enter Tryd.func40, Tryd.ntmps40
    go_wp2
    go_ret
    exact ⟨rfl, rfl⟩
/-- What cut makes of a slice: for good. -/
theorem cut_for {w : World} {u : Value} {xs : List (BitVec 8)} (h : SlB w u xs) : ∃ u', (∀ W, Calls Tryd.prog 40 #[u] W fun e w' => e = .returned u' ∧ W = w') ∧ (∃ a n c, u' = .slice a n c) ∧ ∀ W, Below w.heap.size w W → SlB W u' (xs.take 600) := by
  obtain ⟨a, cap, rfl⟩ := h.len
  have hb := h.bounds.2
  refine ⟨_, fun W => cut_val a xs.length cap W hb.1 hb.2, ⟨_, _, _, rfl⟩, fun W hW => ?_⟩
  have hs := (h.below hW (Nat.le_refl _)).upTo (min xs.length 600) (by omega)
  by_cases hl : xs.length ≤ 600
  · rw [show min xs.length 600 = xs.length by omega, List.take_of_length_le (Nat.le_refl _)] at hs
    rw [show min xs.length 600 = xs.length by omega, List.take_of_length_le hl]
    exact hs
  · rw [show min xs.length 600 = 600 by omega] at hs ⊢
    exact hs

set_option maxRecDepth 100000 in
set_option maxHeartbeats 4000000 in
theorem law_hmacKeys {w : World} (key : List (BitVec 8)) (hk : key.length = 32) (nm0 : List (BitVec 8)) (v2 : Value) (xs : List (List (BitVec 8))) (h2 : SlS w v2 xs) (hG : Glob w) :
    Calls Tryd.prog 16 #[.agg (bytes key), .string (strB nm0), v2] w fun e w' => e = .returned (.bool true) ∧ Below w.heap.size w w' := by
  have hgz := hG.size
  obtain ⟨a2, cap2, rfl, hcap, hmax, hel⟩ := h2
  unfold maxLen at hmax
  obtain ⟨nm, hnm⟩ : ∃ nm, nm0.take 600 = nm := ⟨_, rfl⟩
  have hnl : nm.length ≤ 600 := by rw [← hnm, List.length_take]; omega
  have HEL := Lib.hid (show ∀ j, j < xs.length → ∃ b off u u', a2 = some ⟨b, off, none⟩ ∧ (∀ W, Calls Tryd.prog 40 #[u] W fun e w' => e = .returned u' ∧ W = w') ∧ (∃ a n c, u' = .slice a n c) ∧
        (∀ W, Below w.heap.size w W → SlB W u' ((xs.getD j []).take 600)) ∧ (∀ W, Below w.heap.size w W → W.cell? ⟨b, off + j, none⟩ = some u) from fun j hj => by
    obtain ⟨b, off, u, h1, h2, h3, h4⟩ := hel j hj
    obtain ⟨u', g1, g2, g3⟩ := cut_for h4
    exact ⟨b, off, u, u', h1, g1, g2, g3, fun W hB => (hB.cell (p := ⟨b, off + j, none⟩) h2).trans h3⟩)
  have HAW := Lib.hid (fun W (hB : Below w.heap.size w W) => hworks_any W (hG.below hB hgz))
  obtain ⟨ps, hps⟩ : ∃ ps, (xs.take 6).map (·.take 600) = ps := ⟨_, rfl⟩
  have hpl : ps.length = min xs.length 6 := by rw [← hps]; simp; omega
  have hpj : ∀ j, j < 6 → ps.getD j [] = (xs.getD j []).take 600 := fun j hj => by rw [← hps]; exact getD_map_take xs _ rfl j 6 hj
  have hpm : ∀ j, j < ps.length → (ps.getD j []).length ≤ 1000000 := fun j hj => by rw [hpj j (by omega)]; simp; omega
  have HDR := Lib.hid (fun vs v W (hv : SlL W v vs) (hl : vs.length = ps.length) (hs : ∀ j, j < vs.length → SlB W (vs.getD j undef) (ps.getD j [])) (hB : Below w.heap.size w W) => derive_any key nm ps hk (by omega) vs v W hv hl hs hpm (by omega) (hG.below hB hgz))
  have HRD := Lib.hid (fun vs v W (hv : SlL W v vs) (hl : vs.length = ps.length) (hs : ∀ j, j < vs.length → SlB W (vs.getD j undef) (ps.getD j [])) => rderive_any key nm ps hk (by omega) vs v W hv hl hs hpm (by omega))
  have HEQ := Lib.hid (fun W => run_eql_hash (n := 32) Tryd.underlying32 (by kernel_rfl) (Hma.derive_ key nm ps) (Hma.derive_length _ _ _) W)
  obtain ⟨T, hT⟩ : ∃ T, bytes (Hma.derive_ key nm ps) = T := ⟨_, rfl⟩
  rw [hT] at HEQ
  simp only [hT] at HDR HRD
  have HPJ := Lib.hid hpj
  have HPL := Lib.hid hpl
  have hz0 := strB_size nm0
  have hex := strB_take nm0 600
  obtain ⟨NM, hNM⟩ : ∃ NM, strB nm = NM := ⟨_, rfl⟩
  rw [hNM] at HDR HRD
  have hcase : nm0.length ≤ 600 ∧ (strB nm0).extract 0 nm0.length = NM ∨ 600 < nm0.length ∧ (strB nm0).extract 0 600 = NM := by
    by_cases h : nm0.length ≤ 600
    · exact .inl ⟨h, by rw [strB_take, ← hNM, ← hnm, List.take_of_length_le h, List.take_of_length_le (Nat.le_refl _)]⟩
    · exact .inr ⟨by omega, by rw [hex, hnm, hNM]⟩
  clear hnm hG hex hNM hel hps hpl hpj hpm hnl hT
  generalize strB nm0 = S0 at *
  generalize nm0.length = n0 at *
  obtain ⟨kb, hkb⟩ : ∃ kb, bytes key = kb := ⟨_, rfl⟩
  rw [hkb] at HDR HRD ⊢
  have HIK := Lib.hid (show (Tryd.prog.info? 32).map (·.size) = some kb.toList.length by rw [← hkb, Array.length_toList, bytes_size, hk]; kernel_rfl)
  obtain ⟨m, hm⟩ : ∃ m, xs.length = m := ⟨_, rfl⟩
  rw [hm] at HEL HPL hcap ⊢
  clear hk hkb hm
  obtain ⟨X, hX, hBX, hXs, hX0⟩ := alloc1 w (.cells kb 32)
  have HX := Lib.hid hX
  have HBX := Lib.hid hBX
  have HX0 := Lib.hid hX0
  have HXS := Lib.hid hXs
  clear hX hBX hX0 hXs
  have hq1 := fun x y W => (HEQ.out W).1 x y
  have hq2 := fun W => (HEQ.out W).2
  clear HEQ
  go_enter Tryd.func16, Tryd.ntmps16
  go_upto_region 1 with fail
  rw [HX.out]
  go_cut [1] (fun s1 wx => s1 = .string NM ∧ wx = X)
  case first =>
    rcases hcase with ⟨hc, he⟩ | ⟨hc, he⟩
    all_goals
      go_wp2
      go_meet
      case rel => exact ⟨rfl, rfl⟩
  case rest =>
    obtain ⟨rfl, rfl⟩ := hcut
    clear hcase hz0
    have ⟨X, hXc⟩ : ∃ X, X = wc := ⟨_, rfl⟩
    subst hXc
    go_upto_block 0 with fail
    go_cut [7] (fun s7 wx => Hid (∃ us : List Value, us.length = min m 6 ∧ (∀ j, j < min m 6 → ∀ W, Below w.heap.size w W → SlB W (us.getD j undef) (ps.getD j [])) ∧ OwnL 22 X.heap.size wx s7 us) ∧ Hid (Below X.heap.size X wx))
    case first =>
      go_wp2_with fail
      go_loopw [7, 8] (fun s7 s8 wr => ∃ k : Nat, k ≤ min m 6 ∧ s8 = .int .i64 k ∧ Hid (∃ us : List Value, us.length = k ∧ (∀ j, j < k → ∀ W, Below w.heap.size w W → SlB W (us.getD j undef) (ps.getD j [])) ∧ OwnL 22 X.heap.size wr s7 us) ∧ Hid (Below X.heap.size X wr)) (fun _ s8 _ => 6 - (intOf s8).toNat)
      case atStart => exact ⟨0, by omega, rfl, Lib.hid ⟨[], rfl, fun j hj => absurd hj (by omega), OwnL.nil _ _ _⟩, Below.refl _ _⟩
      case round =>
        obtain ⟨k, hk, rfl, HO, HB⟩ := hrel
        have hsz := HB.out.size
        by_cases hlt : k < min m 6
        · obtain ⟨b, off, u, u', rfl, hcu, ⟨au, nu, cu, hu'⟩, hse, hce⟩ := HEL.out k (by omega)
          subst hu'
          have hbw := HBX.out.trans (HB.out.mono HBX.out.size)
          have hc := hce wr hbw
          have HCU := Lib.hid (hcu wr)
          have h1 : k < m := by omega
          have h2 : k < 6 := by omega
          rw [← HPJ.out k h2] at hse
          have HSE := Lib.hid hse
          obtain ⟨us, hul, hus, hown⟩ := HO.out
          have HOW := Lib.hid hown
          have HUS := Lib.hid hus
          have HUL := Lib.hid hul
          clear hbw hce hcu hown hus hul hse
          go_wp2_with (first
            | (go_at_call 40; (with_reducible refine Calls.mono HCU.out ?_); rintro e w' ⟨rfl, rfl⟩)
            | (at_builtin; refine wpList_append_l rfl (.tmp 24) (.tmp 30) 60 22 rfl Tryd.underlying60 info_sl X.heap.size _ _ (HOW.out.alloc _) rfl _ [.slice au nu cu] (SlL.block [.slice au nu cu] (heap_alloc_new wr _) 1 rfl (show 1 ≤ 1000 by omega)) (by intro y hy; rw [List.mem_singleton] at hy; subst hy; rfl) rfl (by have := HUL.out; rw [List.length_singleton]; omega) (Nat.le_trans hsz (Nat.le_of_lt (by simp))) ?_; intro v3 w3 ho hg hn'; have HO3 := Lib.hid ho; have HB3 := Lib.hid ((HB.out.alloc hsz _).grown hg (by simp; omega) (fun k e => (World.ownsRow.lt HOW.out k e).1)); clear ho hg hn'))
          refine ⟨⟨k + 1, by omega, by go_num, Lib.hid ⟨us ++ [Value.slice au nu cu], by rw [List.length_append, HUL.out]; rfl, fun j hj W hW => ?_, HO3.out⟩, HB3⟩, by simp [intOf]; omega⟩
          by_cases e : j = k
          · subst e
            rw [show (us ++ [Value.slice au nu cu]).getD j undef = .slice au nu cu by simp [List.getD, List.getElem?_append_right (Nat.le_of_eq HUL.out), HUL.out]]
            exact HSE.out W hW
          · rw [show (us ++ [Value.slice au nu cu]).getD j undef = us.getD j undef by simp only [List.getD]; rw [List.getElem?_append_left (by have := HUL.out; omega)]]
            exact HUS.out j (by omega) W hW
        · obtain rfl : k = min m 6 := by omega
          by_cases hm6 : m < 6
          · have h1 : ¬ (min m 6 : Nat) < m := by omega
            go_wp2
            go_meet
            case rel => exact ⟨HO, HB⟩
          · have h1 : (min m 6 : Nat) < m ∨ (min m 6 : Nat) = m := by omega
            have h2 : ¬ (min m 6 : Nat) < 6 := by omega
            go_wp2
            all_goals
              go_meet
              case rel => exact ⟨HO, HB⟩
    case rest =>
      obtain ⟨HO, HB⟩ := hcut
      obtain ⟨us, hul, hus, hown⟩ := HO.out
      have hbw := HBX.out.trans (HB.out.mono HBX.out.size)
      have hul' : us.length = ps.length := by rw [hul, HPL.out]
      have HDA := Lib.hid (fun W (h : Below wc.heap.size wc W) => HDR.out us u7 W (hown.sl.below h (Nat.le_refl _)) hul' (fun j hj => hus j (by omega) W (hbw.trans (h.mono hbw.size))) (hbw.trans (h.mono hbw.size)))
      have HRA := Lib.hid (fun W (h : Below wc.heap.size wc W) => HRD.out us u7 W (hown.sl.below h (Nat.le_refl _)) hul' (fun j hj => hus j (by omega) W (hbw.trans (h.mono hbw.size))))
      have HW9 := Lib.hid (fun W (h : Below wc.heap.size wc W) => HAW.out W (hbw.trans (h.mono hbw.size)))
      have HBW := Lib.hid hbw
      have HRX := Lib.hid (fun W (h : Below wc.heap.size wc W) => rng_bel ((HB.out.block w.heap.size (by have := HXS.out; omega)).trans HX0.out) h)
      clear hul hus hown hul' hbw HO HDR HRD HAW HEL HPJ HPL
      go_upto_region 7 with fail
      -- REG A BEGIN
      refine wp_region_held_drew (S := fun W => Below wc.heap.size wc W) (by kernel_rfl) ((Below.refl wc.heap.size wc).drew) (fun hHeld => ?_)
      refine wpAnyH_take (i := 0) rfl (by kernel_rfl) (by kernel_rfl) (by kernel_rfl) (fun _ _ _ h => h) (yieldsIf_load_mid (by rfl) 32 (.tmp 3) rfl _ _ rfl (kb.toList) _ (fun _ h => HRX.out _ h) Tryd.underlying32 rfl (HIK.out)) (by assumption) ?_
      try simp only [List.getElem_toArray, List.getElem_cons_zero, List.getElem_cons_succ, Act.put, List.setIfInBounds_toArray, List.set_cons_zero, List.set_cons_succ]
      refine wpAnyH_take (i := 1) (v := ?v1) rfl (by kernel_rfl) (by kernel_rfl) (by kernel_rfl) (fun _ _ _ h => h) (Or.inl ⟨by rfl, ?y1⟩) (by assumption) ?r1
      case y1 =>
        intro w' hSw
        go_split_ands
        go_simp
        try with_reducible rfl
      try simp only [List.getElem_toArray, List.getElem_cons_zero, List.getElem_cons_succ, Act.put, List.setIfInBounds_toArray, List.set_cons_zero, List.set_cons_succ]
      refine wpAnyH_take (i := 2) (v := ?v2) rfl (by kernel_rfl) (by kernel_rfl) (by kernel_rfl) (fun _ _ _ h => h) (Or.inl ⟨by rfl, ?y2⟩) (by assumption) ?r2
      case y2 =>
        intro w' hSw
        go_split_ands
        go_simp
        try with_reducible rfl
      try simp only [List.getElem_toArray, List.getElem_cons_zero, List.getElem_cons_succ, Act.put, List.setIfInBounds_toArray, List.set_cons_zero, List.set_cons_succ]
      refine wpAnyH_take (i := 4) rfl (by kernel_rfl) (by kernel_rfl) (by kernel_rfl) (fun _ _ _ h => h) (yieldsIf_load_mid (by rfl) 32 (.tmp 3) rfl _ _ rfl (kb.toList) _ (fun _ h => HRX.out _ h) Tryd.underlying32 rfl (HIK.out)) (by assumption) ?_
      try simp only [List.getElem_toArray, List.getElem_cons_zero, List.getElem_cons_succ, Act.put, List.setIfInBounds_toArray, List.set_cons_zero, List.set_cons_succ]
      refine wpAnyH_take (i := 5) (v := ?v3) rfl (by kernel_rfl) (by kernel_rfl) (by kernel_rfl) (fun _ _ _ h => h) (Or.inl ⟨by rfl, ?y3⟩) (by assumption) ?r3
      case y3 =>
        intro w' hSw
        go_split_ands
        go_simp
        try with_reducible rfl
      try simp only [List.getElem_toArray, List.getElem_cons_zero, List.getElem_cons_succ, Act.put, List.setIfInBounds_toArray, List.set_cons_zero, List.set_cons_succ]
      refine wpAnyH_take (i := 6) (v := ?v4) rfl (by kernel_rfl) (by kernel_rfl) (by kernel_rfl) (fun _ _ _ h => h) (Or.inl ⟨by rfl, ?y4⟩) (by assumption) ?r4
      case y4 =>
        intro w' hSw
        go_split_ands
        go_simp
        try with_reducible rfl
      try simp only [List.getElem_toArray, List.getElem_cons_zero, List.getElem_cons_succ, Act.put, List.setIfInBounds_toArray, List.set_cons_zero, List.set_cons_succ]
      refine wpAnyH_ready (rs := [3]) (by kernel_rfl) (by simp) ?_
      refine AllReadyH.cons (i := 3) rfl (fun K hK => ?_) AllReadyH.nil
      go_simp
      go_at_call 45
      (with_reducible refine Calls.mono (HDA.out _ ((Below.refl wc.heap.size wc).drew)) ?_)
      rintro e w_1 ⟨rfl, hb⟩
      have HB_2 := Lib.hid (((Below.refl wc.heap.size wc).drew).trans (hb.mono ((Below.refl wc.heap.size wc).drew).size))
      clear hb
      refine hK.out _ _ (HB_2.out) (fun hHeld' => ?_)
      clear hHeld hK K
      have hHeld := hHeld'
      clear hHeld'
      try simp only [List.getElem_toArray, List.getElem_cons_zero, List.getElem_cons_succ, Act.put, List.setIfInBounds_toArray, List.set_cons_zero, List.set_cons_succ]
      refine wpAnyH_ready (rs := [7]) (by kernel_rfl) (by simp) ?_
      refine AllReadyH.cons (i := 7) rfl (fun K hK => ?_) AllReadyH.nil
      go_simp
      go_at_call 48
      (with_reducible refine Calls.mono (HRA.out _ (HB_2.out)) ?_)
      rintro e w_3 ⟨rfl, hb⟩
      have HB_4 := Lib.hid ((HB_2.out).trans (hb.mono (HB_2.out).size))
      clear hb
      refine hK.out _ _ (HB_4.out) (fun hHeld' => ?_)
      clear hHeld hK K
      have hHeld := hHeld'
      clear hHeld'
      try simp only [List.getElem_toArray, List.getElem_cons_zero, List.getElem_cons_succ, Act.put, List.setIfInBounds_toArray, List.set_cons_zero, List.set_cons_succ]
      refine wpAnyH_take (i := 8) (v := ?v5) rfl (by kernel_rfl) (by kernel_rfl) (by kernel_rfl) (fun _ _ _ h => h) (Or.inl ⟨by rfl, ?y5⟩) (by assumption) ?r5
      case y5 =>
        intro w' hSw
        go_split_ands
        go_simp
        try with_reducible rfl
      try simp only [List.getElem_toArray, List.getElem_cons_zero, List.getElem_cons_succ, Act.put, List.setIfInBounds_toArray, List.set_cons_zero, List.set_cons_succ]
      refine wpAnyH_take (i := 9) (v := ?v6) rfl (by kernel_rfl) (by kernel_rfl) (by kernel_rfl) (fun _ _ _ h => h) (Or.inl ⟨by rfl, ?y6⟩) (by assumption) ?r6
      case y6 =>
        intro w' hSw
        go_split_ands
        go_simp
        try with_reducible rfl
      try simp only [List.getElem_toArray, List.getElem_cons_zero, List.getElem_cons_succ, Act.put, List.setIfInBounds_toArray, List.set_cons_zero, List.set_cons_succ]
      refine wpAnyH_ready (rs := [10]) (by kernel_rfl) (by simp) ?_
      refine AllReadyH.cons (i := 10) rfl (fun K hK => ?_) AllReadyH.nil
      go_simp
      go_at_call 42
      (with_reducible refine Calls.mono (HW9.out _ (HB_4.out)) ?_)
      rintro e w_5 ⟨rfl, hb⟩
      have HB_6 := Lib.hid ((HB_4.out).trans (hb.mono (HB_4.out).size))
      clear hb
      refine hK.out _ _ (HB_6.out) (fun hHeld' => ?_)
      clear hHeld hK K
      have hHeld := hHeld'
      clear hHeld'
      try simp only [List.getElem_toArray, List.getElem_cons_zero, List.getElem_cons_succ, Act.put, List.setIfInBounds_toArray, List.set_cons_zero, List.set_cons_succ]
      refine wpAnyH_take (i := 11) (v := ?v7) rfl (by kernel_rfl) (by kernel_rfl) (by kernel_rfl) (fun _ _ _ h => h) (Or.inl ⟨by rfl, ?y7⟩) (by assumption) ?r7
      case y7 =>
        intro w' hSw
        go_split_ands
        go_simp
        try with_reducible rfl
      try simp only [List.getElem_toArray, List.getElem_cons_zero, List.getElem_cons_succ, Act.put, List.setIfInBounds_toArray, List.set_cons_zero, List.set_cons_succ]
      refine wpAnyH_take (i := 12) (v := ?v8) rfl (by kernel_rfl) (by kernel_rfl) (by kernel_rfl) (fun _ _ _ h => h) (Or.inl ⟨by rfl, ?y8⟩) (by assumption) ?r8
      case y8 =>
        intro w' hSw
        go_split_ands
        go_simp
        try with_reducible rfl
      try simp only [List.getElem_toArray, List.getElem_cons_zero, List.getElem_cons_succ, Act.put, List.setIfInBounds_toArray, List.set_cons_zero, List.set_cons_succ]
      refine wpAnyH_done (by kernel_rfl) ?_ _
      go_wp2
      go_ret
      exact ⟨rfl, HBW.out.trans ((HB_6.out).mono HBW.out.size)⟩
      -- REG A END
theorem row_hmacKeys {w : World} (key : List (BitVec 8)) (hk : key.length = 32) (nm0 : List (BitVec 8)) (v2 : Value) (h2 : ∃ xs, SlS w v2 xs) (hG : Glob w) :
    Calls Tryd.prog 16 #[.agg (bytes key), .string (strB nm0), v2] w fun e w' => e = .returned (.bool true) ∧ Below w.heap.size w w' := by
  obtain ⟨xs, h⟩ := h2
  exact law_hmacKeys key hk nm0 v2 xs h hG
end Go.Proofs.YtnoilogepkelaaaDoor
namespace Go.Proofs.YtnoilogepkelaaaDoor.rowHmacKeys
open Go.ChangeShapes Go.WideShapes Go.ChangeAt Go.RowKit
open Go.ChangeMaps (open_string)
set_option linter.unusedVariables false
set_option linter.unusedSimpArgs false

theorem own : ownKnob Tryd.prog.godebug = none := by kernel_rfl
theorem laidOut : laidOutB Tryd.prog = true := by kernel_rfl

set_option maxRecDepth 100000 in
theorem lifted (os : Os) (started : os.Started) (H : Type) (enc : TypeId × Value → H) :
    ReturnsInHanded {} Tryd.checked os 16 .any (fun w args => (Rows.hmacKeysSpec.pre enc Tryd.prog Tryd.f16 [] false w args ∧ laidMet Tryd.prog Ls w) ∧ sizedMet enc Tryd.prog Tryd.f16 (OpenSpec.ofChange Rows.hmacKeysSpec) false w args)
      (Rows.hmacKeysSpec.post enc Tryd.prog Tryd.f16 false true false false) := by
  refine returnsInHanded_of_change_and (C := Tryd.checked) (X := fun w _ => laidMet Tryd.prog Ls w) (fun _ _ _ hh h => h.of_heap hh) own started (by kernel_rfl) Tryd.func16
    (ChangeSpec.witness_at (enc := enc) (C := Tryd.checked) (os := os) (X := fun w _ => laidMet Tryd.prog Ls w) false (laidWorld os) #[.agg #[.int .u8 0, .int .u8 0, .int .u8 0, .int .u8 0, .int .u8 0, .int .u8 0, .int .u8 0, .int .u8 0, .int .u8 0, .int .u8 0, .int .u8 0, .int .u8 0, .int .u8 0, .int .u8 0, .int .u8 0, .int .u8 0, .int .u8 0, .int .u8 0, .int .u8 0, .int .u8 0, .int .u8 0, .int .u8 0, .int .u8 0, .int .u8 0, .int .u8 0, .int .u8 0, .int .u8 0, .int .u8 0, .int .u8 0, .int .u8 0, .int .u8 0, .int .u8 0], .string ByteArray.empty, .slice none 0 0] 8 rfl (by kernel_rfl) (by kernel_rfl) (by kernel_rfl) (by kernel_rfl) (by kernel_rfl) (laid_world os _)) ?_
  intro W base args ds gs before hval0 hW _ _ hL _
  have hval : ∀ (j : Nat) t v, Tryd.f16.params[j]? = some t → args[j]? = some v → Value.okWide Tryd.prog W .any base t v := hval0
  have hW' := hW
  obtain ⟨p, q, hA0, hV, rfl, hfz, hnd⟩ := hW
  have hA : DataW.TrodAll enc Tryd.prog W 0 (fun _ => true) true Tryd.f16.params.toList args.toList ds p := hA0
  rw [Tryd.params16] at hA hval
  obtain ⟨v0, vs0, d0, ds0, p0, q0, hargs, rfl, rfl, h0, r0⟩ := trodAll_cons hA
  obtain ⟨v1, vs1, d1, ds1, p1, q1, rfl, rfl, rfl, h1, r1⟩ := trodAll_cons r0
  obtain ⟨v2, vs2, d2, ds2, p2, q2, rfl, rfl, rfl, h2, r2⟩ := trodAll_cons r1
  obtain ⟨rfl, rfl, rfl⟩ := trodAll_nil r2
  obtain rfl : args = #[v0, v1, v2] := by cases args; simp_all
  obtain ⟨rfl, rfl⟩ := trodVars_none hV
  have k0 := h0
  have lt0 : ∀ x ∈ p0, x.block < W.heap.size := by obtain ⟨m, hm⟩ := k0; exact DataW.trod_lt m _ _ _ hm
  have k1 := h1
  have lt1 : ∀ x ∈ p1, x.block < W.heap.size := by obtain ⟨m, hm⟩ := k1; exact DataW.trod_lt m _ _ _ hm
  have k2 := h2
  have lt2 : ∀ x ∈ p2, x.block < W.heap.size := by obtain ⟨m, hm⟩ := k2; exact DataW.trod_lt m _ _ _ hm
  obtain ⟨x0, l0, rfl⟩ := open_bytes (n := 32) Tryd.underlying32 Tryd.underlying5 (by kernel_rfl) (by kernel_rfl) (hval 0 32 v0 rfl rfl)
  obtain ⟨y1, rfl, _, _, w1⟩ := open_string Tryd.underlying9 (hval 1 9 v1 rfl rfl) h1
  obtain ⟨x1, rfl⟩ := strB_all y1
  have w2 := open_slices (hval 2 60 v2 rfl rfl) h2
  clear hA0 hval0
  refine (row_hmacKeys x0 l0 x1 v2 w2 (glob_of_vars (vars_of_laid hL))).mono fun e W' ⟨he, bel⟩ => ?_
  subst he
  exact ⟨_, rfl, _, _, _, [], _, [], hW', trodAll_mk1 (shut_bool Tryd.underlying4 _), (trodAll_cons_mk (Below.trod laidOut (by kernel_rfl) (of_decide_eq_true (by kernel_rfl)) k0 bel lt0) (trodAll_cons_mk (Below.trod laidOut (by kernel_rfl) (of_decide_eq_true (by kernel_rfl)) k1 bel lt1) (trodAll_cons_mk (Below.trod laidOut (by kernel_rfl) (of_decide_eq_true (by kernel_rfl)) k2 bel lt2) trodAll_mk0))), rfl, bel.frame _, fun h => by cases h⟩

theorem proved : Rows.HmacKeysSaid :=
  OpenClaim.holds_of_wide 16 Tryd.f16 rfl rfl rfl rfl rfl rfl rfl ⟨rfl, rfl, rfl, rfl, rfl⟩ rfl rfl rfl rfl rfl (by kernel_rfl) Tryd.func16 (by kernel_rfl)
    (of_decide_eq_true (by kernel_rfl)) (by unfold Func.isWrapper; first | (rw [if_pos (by decide +kernel)]; kernel_rfl) | (rw [if_neg (by decide +kernel)]; exact ⟨rfl, rfl⟩))
    (fun os started H enc _ => lifted os started H enc)
end Go.Proofs.YtnoilogepkelaaaDoor.rowHmacKeys
namespace Go.Proofs.YtnoilogepkelaaaDoor.cardHmacKeys
open Go
theorem proved : Rows.HmacKeysCardSaid :=
  Claim7.holds_tied_plain_at .later [] [.data, .data] true (true, "7a6ec62b16e8eff594300fbad7bbffdd2b98b027ed8fb16ef0f44a85b4f277cd") false
    rowHmacKeys.proved (fun _ h => by cases h) (by kernel_rfl) (fun _ h => by cases h) hmacKeys_row_tie rfl ⟨rfl, rfl⟩ (by kernel_rfl) rfl
    (fun f fn hf hfn => by
      obtain rfl : f = 16 := Option.some.inj ((show Tryd.prog.funcNamed "redwax/redwaxlaw02.HmacKeys" = some 16 by kernel_rfl).symm.trans hf) |>.symm
      obtain rfl : fn = Tryd.f16 := (Option.some.inj (Tryd.func16.symm.trans hfn)).symm
      exact ⟨by kernel_rfl, fun j t ht => by
        rw [Tryd.params16] at ht
        rcases j with _ | _ | _ | j
        · obtain rfl : t = 32 := by simpa using ht.symm
          exact (show Tryd.prog.wantsStandIn 32 = false by kernel_rfl)
        · obtain rfl : t = 9 := by simpa using ht.symm
          exact (show Tryd.prog.wantsStandIn 9 = false by kernel_rfl)
        · obtain rfl : t = 60 := by simpa using ht.symm
          exact (show Tryd.prog.wantsStandIn 60 = false by kernel_rfl)
        · simp at ht⟩)
    (by kernel_rfl)
end Go.Proofs.YtnoilogepkelaaaDoor.cardHmacKeys
