/-
  The law ShaMixes: its walk.
-/
import Derived.Test.YtnoilogepkelaaaDoorShaL5
import Derived.Test.YtnoilogepkelaaaDoorShaB
import Derived.Test.YtnoilogepkelaaaDoorAny
namespace Go.Proofs.YtnoilogepkelaaaDoor
set_option linter.unusedVariables false
set_option linter.unusedSimpArgs false
open Go Go.RowKit

theorem run_eql_words {T n : Nat} (hT : Tryd.prog.underlying T = some (.array n 25)) (hG : Tryd.prog.eqGuardType Tryd.prog.depth T = false) (xs : List (BitVec 32)) (h : xs.length = n) (w : World) :
    (∀ x y, (eqGuard .eql T x y (.agg (words xs)) (.agg (words xs))).run Tryd.prog w = .ok () w) ∧ (binOp .eql T (.agg (words xs)) (.agg (words xs))).run Tryd.prog w = .ok (.bool true) w := by
  refine ⟨fun x y => run_eqGuard_agg w .eql T x y _ _ hG, ?_⟩
  have e : words xs = ints .u32 (xs.map wv) := by simp [words, ints, List.map_map, Function.comp_def]
  have e2 : (Op.equal T (.agg (words xs)) (.agg (words xs))).run Tryd.prog w = .ok true w := by
    show (Op.equalIn 10000 T (.agg (words xs)) (.agg (words xs))).run Tryd.prog w = .ok true w
    rw [e, run_equalIn_ints (P := Tryd.prog) (T := T) (E := 25) (n := n) (k := .u32) hT Tryd.underlying25 (by kernel_rfl) _ _ (by simpa using h) (by simpa using h) w]
    simp
  show ((do pure (.bool (← Op.equal T (.agg (words xs)) (.agg (words xs)))) : Sem Value)).run Tryd.prog w = _
  rw [Sem.run_bind, e2]
  rfl
/-- room for 64 bytes. -/
theorem made_room (w : World) : (Instr.makeSlice 22 (.int .i64 0) (.int .i64 64)).run Tryd.prog w = .ok (.slice (some ⟨w.heap.size, 0, none⟩) 0 64) (w.alloc (.cells (madeCells (Value.int .u8 0).cells 64) 5)) := by
  obtain ⟨i, hi, hz, hsz, hby⟩ := info_parts info_u8
  have hm := run_makeSlice (P := Tryd.prog) w 22 5 i (.int .u8 0) Tryd.underlying22 hi hz .i64 .i64 0 64 (by omega) (by omega) (by rw [hsz]; omega) (by rw [hby]; omega) (by omega)
  rw [hsz] at hm
  exact hm
theorem one_new_m {E : TypeId} (w : World) (n : Int) (x : BitVec 8) (h : n = bv x) : SlB (w.alloc (.cells #[.int .u8 n] E)) (.slice (some ⟨w.heap.size, 0, none⟩) 1 1) [x] := by
  subst h
  exact SlB.block (heapA_new w _ _ rfl) 0 1 [x] (by simp) (by decide) (fun j hj => by
    have : j = 0 := by simp at hj; omega
    subst this
    rfl)
theorem take_next (b : List (BitVec 8)) (i : Nat) (h : i < b.length) : b.take (i + 1) = b.take i ++ [b.getD i 0] := by
  rw [List.take_add_one]
  simp [h]

set_option maxRecDepth 100000 in
set_option maxHeartbeats 4000000 in
theorem law_shaMixes {w : World} (ws : List (BitVec 32)) (hw : ws.length = 8) (b : List (BitVec 8)) (hb : b.length = 64) (n : Int) (hwf : (Lit.int .i64 n).wf = true) (hG : Glob w) :
    Calls Tryd.prog 5 #[.agg (words ws), .agg (bytes b), .int .i64 n] w fun e w' => e = .returned (.bool true) ∧ Below w.heap.size w w' := by
  clear hwf
  have hgz := hG.size
  have HGB := Lib.hid (fun W (hB : Below w.heap.size w W) => hG.below hB hgz)
  have HAW := Lib.hid (fun W (hB : Below w.heap.size w W) => awake_any W (hG.below hB hgz))
  have HST := Lib.hid (fun W (hB : Below w.heap.size w W) => start_any W (hG.below hB hgz))
  have HRS := Lib.hid (fun W => rstart_any W)
  have HMX := Lib.hid (fun W (hB : Below w.heap.size w W) => mix_any ws b hw hb W (hG.below hB hgz))
  have HRM := Lib.hid (fun v W (hs : SlB W v b) => rMix_any ws b hw hb v W hs)
  have HE1 := Lib.hid (fun W => run_eql_words (n := 8) Tryd.underlying27 (by kernel_rfl) Sha.starts rfl W)
  have HE2 := Lib.hid (fun W => run_eql_words (n := 8) Tryd.underlying27 (by kernel_rfl) (Sha.mix ws b) (Sha.mix_length ws b hw) W)
  obtain ⟨L, hL1, hL2⟩ : ∃ L, (∀ W, Calls Tryd.prog 24 #[.int .i64 n] W (RetB W L)) ∧ (∀ W, Calls Tryd.prog 32 #[.int .i64 n] W (RetB W L)) := by
    by_cases h : n < 0 ∨ 1152921504606846976 < n
    · refine ⟨[], fun W => (behind_no n h W).mono ?_, fun W => (rbehind_no n h W).mono ?_⟩
      · rintro e w' ⟨rfl, rfl⟩
        exact ⟨_, rfl, OwnB.nil _ _ _, Below.refl _ _⟩
      · rintro e w' ⟨rfl, rfl⟩
        exact ⟨_, rfl, OwnB.nil _ _ _, Below.refl _ _⟩
    · obtain ⟨m, rfl⟩ : ∃ m : Nat, n = m := ⟨n.toNat, by omega⟩
      exact ⟨Sha.behind m, fun W => behind_any m (by omega) W, fun W => rbehind_any m (by omega) W⟩
  have HBH := Lib.hid hL1
  have HRB := Lib.hid hL2
  obtain ⟨SL, hSL⟩ : ∃ SL, strB L = SL := ⟨_, rfl⟩
  have HLS := Lib.hid hSL
  have HWL := Lib.hid (show (Tryd.prog.info? 27).map (·.size) = some (words ws).toList.length by rw [Array.length_toList, words_size, hw]; kernel_rfl)
  have HBL := Lib.hid (show (Tryd.prog.info? 29).map (·.size) = some (bytes b).toList.length by rw [Array.length_toList, bytes_size, hb]; kernel_rfl)
  have HTK := Lib.hid (fun i (h : i < 64) => take_next b i (by omega))
  have HT64 := Lib.hid (show b.take 64 = b from List.take_of_length_le (by omega))
  have HCE := Lib.hid (fun i (h : i < 64) => bytes_get? b i (by omega))
  have HLN := Lib.hid (fun i => (show (b.take i).length = min i b.length from List.length_take))
  have hmk := fun W => made_room W
  obtain ⟨ZB, hZB⟩ : ∃ ZB, madeCells (Value.int .u8 0).cells 64 = ZB := ⟨_, rfl⟩
  have HZB := Lib.hid (show ZB.size = 64 * 1 by rw [← hZB, size_madeCells])
  rw [hZB] at hmk
  obtain ⟨wb, hwb⟩ : ∃ wb, words ws = wb := ⟨_, rfl⟩
  obtain ⟨bb, hbb⟩ : ∃ bb, bytes b = bb := ⟨_, rfl⟩
  obtain ⟨sw, hsw⟩ : ∃ sw, words Sha.starts = sw := ⟨_, rfl⟩
  obtain ⟨mw, hmw⟩ : ∃ mw, words (Sha.mix ws b) = mw := ⟨_, rfl⟩
  rw [hwb] at HMX HRM HWL ⊢
  rw [hbb] at HMX HBL HCE ⊢
  rw [hsw] at HST HRS HE1
  rw [hmw] at HMX HRM HE2
  clear hwb hbb hsw hmw hZB hSL hL1 hL2 hw hb hG
  go_enter Tryd.func5, Tryd.ntmps5
  go_upto_region 1 with fail
  obtain ⟨X, hX, hBX, hXs, hX0, hX1⟩ := alloc2 w (.cells wb 27) (.cells bb 29)
  rw [hX]
  have HX0 := Lib.hid hX0
  have HX1 := Lib.hid hX1
  have HXS := Lib.hid hXs
  have HBX := Lib.hid hBX
  obtain ⟨O, hO⟩ : ∃ O, w.heap.size = O := ⟨_, rfl⟩
  obtain ⟨G, hGv⟩ : ∃ G, w.heap.size + 1 = G := ⟨_, rfl⟩
  have HOG := Lib.hid (show O < X.heap.size ∧ G < X.heap.size by omega)
  rw [hGv] at HX1 ⊢
  rw [hO] at HX0 ⊢
  clear hX hBX hXs hX0 hX1 hO hGv
  go_wp2
  go_loopw [7, 8] (fun s7 s8 wr => ∃ i : Nat, i ≤ 64 ∧ s8 = .int .i64 i ∧ Hid (OwnB 5 X.heap.size wr s7 (b.take i)) ∧ Hid (Below X.heap.size X wr)) (fun _ s8 _ => 64 - (intOf s8).toNat)
  case atStart => exact ⟨0, by omega, rfl, World.ownsRow_made X ZB 64 (Nat.le_refl _) (by decide) HZB.out, (Below.refl _ X).alloc (Nat.le_refl _) _⟩
  case round =>
    obtain ⟨i, hi, rfl, HO, HB⟩ := hrel
    have hsz := HB.out.size
    by_cases hlt : i < 64
    · have c0 := (cell_of_row wr G i _ _ _ ((HB.out.block _ HOG.out.2).trans HX1.out)).trans (HCE.out i hlt)
      have htk := HTK.out i hlt
      generalize b.getD i 0 = y at c0 htk
      have HT := Lib.hid htk
      have HL := Lib.hid (show (b.take i).length ≤ 64 by rw [HLN.out]; omega)
      clear htk hmk
      go_wp2_with (at_builtin; go_loud (refine wpList_append_b rfl (.tmp 14) (.tmp 18) 22 5 rfl Tryd.underlying22 info_u8 X.heap.size _ _ (HO.out.alloc _) rfl _ [y] (one_new_m _ _ _ rfl) rfl (by have := HL.out; simp only [List.length_singleton]; omega) (by simp; omega) ?_; intro v3 w3 ho hg hn'; rw [← HT.out] at ho; have HO3 := Lib.hid ho; have HB3 := Lib.hid ((HB.out.alloc hsz _).grown hg (by simp; omega) (fun k e => (World.ownsRow.lt HO.out k e).1)); clear ho hg hn'))
      exact ⟨⟨i + 1, by omega, by go_num, HO3, HB3⟩, by simp [intOf]; omega⟩
    · obtain rfl : i = 64 := by omega
      rw [HT64.out] at HO
      have HV := Lib.hid (HBX.out.trans (HB.out.mono HBX.out.size))
      have HRW := Lib.hid (fun W (h : Below wr.heap.size wr W) => rng_of_row W O _ _ _ ((h.block _ (by have := HOG.out.1; omega)).trans ((HB.out.block _ HOG.out.1).trans HX0.out)))
      have HRB2 := Lib.hid (fun W (h : Below wr.heap.size wr W) => rng_of_row W G _ _ _ ((h.block _ (by have := HOG.out.2; omega)).trans ((HB.out.block _ HOG.out.2).trans HX1.out)))
      have HSB := Lib.hid (fun W (h : Below wr.heap.size wr W) => HO.out.sl.below h (Nat.le_refl _))
      have hp1 := fun x y W => (HE1.out W).1 x y
      have hp2 := fun W => (HE1.out W).2
      have hq1 := fun x y W => (HE2.out W).1 x y
      have hq2 := fun W => (HE2.out W).2
      clear HO HB hmk HE1 HE2 HX0 HX1
      go_upto_region 6 with fail
      -- REG A BEGIN
      refine wp_region_held_drew (S := fun W => Below wr.heap.size wr W) (by kernel_rfl) ((Below.refl _ wr).drew) (fun hHeld => ?_)
      refine wpAnyH_ready (rs := [0]) (by kernel_rfl) (by simp) ?_
      refine AllReadyH.cons (i := 0) rfl (fun K hK => ?_) AllReadyH.nil
      go_simp
      go_at_call 25
      refine (HST.out _ (HV.out.trans (((Below.refl wr.heap.size wr).drew).mono HV.out.size))).mono ?_
      rintro e w_1 ⟨rfl, hb⟩
      have HB_2 := Lib.hid (((Below.refl wr.heap.size wr).drew).trans (hb.mono ((Below.refl wr.heap.size wr).drew).size))
      clear hb
      refine hK.out _ _ (HB_2.out) (fun hHeld' => ?_)
      clear hHeld hK K
      have hHeld := hHeld'
      clear hHeld'
      try simp only [List.getElem_toArray, List.getElem_cons_zero, List.getElem_cons_succ, Act.put, List.setIfInBounds_toArray, List.set_cons_zero, List.set_cons_succ]
      refine wpAnyH_ready (rs := [1]) (by kernel_rfl) (by simp) ?_
      refine AllReadyH.cons (i := 1) rfl (fun K hK => ?_) AllReadyH.nil
      go_simp
      go_at_call 30
      refine (HRS.out _).mono ?_
      rintro e w_3 ⟨rfl, hb⟩
      have HB_4 := Lib.hid ((HB_2.out).trans (hb.mono (HB_2.out).size))
      clear hb
      refine hK.out _ _ (HB_4.out) (fun hHeld' => ?_)
      clear hHeld hK K
      have hHeld := hHeld'
      clear hHeld'
      try simp only [List.getElem_toArray, List.getElem_cons_zero, List.getElem_cons_succ, Act.put, List.setIfInBounds_toArray, List.set_cons_zero, List.set_cons_succ]
      refine wpAnyH_take (i := 2) (v := ?v1) rfl (by kernel_rfl) (by kernel_rfl) (by kernel_rfl) (fun _ _ _ h => h) (Or.inl ⟨by rfl, ?y1⟩) (by assumption) ?r1
      case y1 =>
        intro w' hSw
        go_split_ands
        go_simp
        try with_reducible rfl
      try simp only [List.getElem_toArray, List.getElem_cons_zero, List.getElem_cons_succ, Act.put, List.setIfInBounds_toArray, List.set_cons_zero, List.set_cons_succ]
      refine wpAnyH_take (i := 3) (v := ?v2) rfl (by kernel_rfl) (by kernel_rfl) (by kernel_rfl) (fun _ _ _ h => h) (Or.inl ⟨by rfl, ?y2⟩) (by assumption) ?r2
      case y2 =>
        intro w' hSw
        go_split_ands
        go_simp
        try with_reducible rfl
      try simp only [List.getElem_toArray, List.getElem_cons_zero, List.getElem_cons_succ, Act.put, List.setIfInBounds_toArray, List.set_cons_zero, List.set_cons_succ]
      refine wpAnyH_take (i := 4) rfl (by kernel_rfl) (by kernel_rfl) (by kernel_rfl) (fun _ _ _ h => h) (yieldsIf_load_mid (by rfl) 27 (.tmp 3) rfl _ _ rfl (wb.toList) _ (fun _ h => HRW.out _ h) Tryd.underlying27 rfl (HWL.out)) (by assumption) ?_
      try simp only [List.getElem_toArray, List.getElem_cons_zero, List.getElem_cons_succ, Act.put, List.setIfInBounds_toArray, List.set_cons_zero, List.set_cons_succ]
      refine wpAnyH_take (i := 5) rfl (by kernel_rfl) (by kernel_rfl) (by kernel_rfl) (fun _ _ _ h => h) (yieldsIf_load_mid (by rfl) 29 (.tmp 4) rfl _ _ rfl (bb.toList) _ (fun _ h => HRB2.out _ h) Tryd.underlying29 rfl (HBL.out)) (by assumption) ?_
      try simp only [List.getElem_toArray, List.getElem_cons_zero, List.getElem_cons_succ, Act.put, List.setIfInBounds_toArray, List.set_cons_zero, List.set_cons_succ]
      refine wpAnyH_take (i := 7) rfl (by kernel_rfl) (by kernel_rfl) (by kernel_rfl) (fun _ _ _ h => h) (yieldsIf_load_mid (by rfl) 27 (.tmp 3) rfl _ _ rfl (wb.toList) _ (fun _ h => HRW.out _ h) Tryd.underlying27 rfl (HWL.out)) (by assumption) ?_
      try simp only [List.getElem_toArray, List.getElem_cons_zero, List.getElem_cons_succ, Act.put, List.setIfInBounds_toArray, List.set_cons_zero, List.set_cons_succ]
      refine wpAnyH_take (i := 8) (v := ?v3) rfl (by kernel_rfl) (by kernel_rfl) (by kernel_rfl) (fun _ _ _ h => h) (Or.inl ⟨by rfl, ?y3⟩) (by assumption) ?r3
      case y3 =>
        intro w' hSw
        go_split_ands
        go_simp
        try with_reducible rfl
      try simp only [List.getElem_toArray, List.getElem_cons_zero, List.getElem_cons_succ, Act.put, List.setIfInBounds_toArray, List.set_cons_zero, List.set_cons_succ]
      refine wpAnyH_ready (rs := [6]) (by kernel_rfl) (by simp) ?_
      refine AllReadyH.cons (i := 6) rfl (fun K hK => ?_) AllReadyH.nil
      go_simp
      go_at_call 26
      refine (HMX.out _ (HV.out.trans ((HB_4.out).mono HV.out.size))).mono ?_
      rintro e w_5 ⟨rfl, hb⟩
      have HB_6 := Lib.hid ((HB_4.out).trans (hb.mono (HB_4.out).size))
      clear hb
      refine hK.out _ _ (HB_6.out) (fun hHeld' => ?_)
      clear hHeld hK K
      have hHeld := hHeld'
      clear hHeld'
      try simp only [List.getElem_toArray, List.getElem_cons_zero, List.getElem_cons_succ, Act.put, List.setIfInBounds_toArray, List.set_cons_zero, List.set_cons_succ]
      refine wpAnyH_ready (rs := [9]) (by kernel_rfl) (by simp) ?_
      refine AllReadyH.cons (i := 9) rfl (fun K hK => ?_) AllReadyH.nil
      go_simp
      go_at_call 31
      refine (HRM.out _ _ (HSB.out _ HB_6.out)).mono ?_
      rintro e w_7 ⟨rfl, hb⟩
      have HB_8 := Lib.hid ((HB_6.out).trans (hb.mono (HB_6.out).size))
      clear hb
      refine hK.out _ _ (HB_8.out) (fun hHeld' => ?_)
      clear hHeld hK K
      have hHeld := hHeld'
      clear hHeld'
      try simp only [List.getElem_toArray, List.getElem_cons_zero, List.getElem_cons_succ, Act.put, List.setIfInBounds_toArray, List.set_cons_zero, List.set_cons_succ]
      refine wpAnyH_take (i := 10) (v := ?v4) rfl (by kernel_rfl) (by kernel_rfl) (by kernel_rfl) (fun _ _ _ h => h) (Or.inl ⟨by rfl, ?y4⟩) (by assumption) ?r4
      case y4 =>
        intro w' hSw
        go_split_ands
        go_simp
        try with_reducible rfl
      try simp only [List.getElem_toArray, List.getElem_cons_zero, List.getElem_cons_succ, Act.put, List.setIfInBounds_toArray, List.set_cons_zero, List.set_cons_succ]
      refine wpAnyH_take (i := 11) (v := ?v5) rfl (by kernel_rfl) (by kernel_rfl) (by kernel_rfl) (fun _ _ _ h => h) (Or.inl ⟨by rfl, ?y5⟩) (by assumption) ?r5
      case y5 =>
        intro w' hSw
        go_split_ands
        go_simp
        try with_reducible rfl
      try simp only [List.getElem_toArray, List.getElem_cons_zero, List.getElem_cons_succ, Act.put, List.setIfInBounds_toArray, List.set_cons_zero, List.set_cons_succ]
      refine wpAnyH_take (i := 12) (v := ?v6) rfl (by kernel_rfl) (by kernel_rfl) (by kernel_rfl) (fun _ _ _ h => h) (Or.inl ⟨by rfl, ?y6⟩) (by assumption) ?r6
      case y6 =>
        intro w' hSw
        go_split_ands
        go_simp
        try with_reducible rfl
      try simp only [List.getElem_toArray, List.getElem_cons_zero, List.getElem_cons_succ, Act.put, List.setIfInBounds_toArray, List.set_cons_zero, List.set_cons_succ]
      refine wpAnyH_take (i := 13) (v := ?v7) rfl (by kernel_rfl) (by kernel_rfl) (by kernel_rfl) (fun _ _ _ h => h) (Or.inl ⟨by rfl, ?y7⟩) (by assumption) ?r7
      case y7 =>
        intro w' hSw
        go_split_ands
        go_simp
        try with_reducible rfl
      try simp only [List.getElem_toArray, List.getElem_cons_zero, List.getElem_cons_succ, Act.put, List.setIfInBounds_toArray, List.set_cons_zero, List.set_cons_succ]
      refine wpAnyH_take (i := 16) (v := ?v8) rfl (by kernel_rfl) (by kernel_rfl) (by kernel_rfl) (fun _ _ _ h => h) (Or.inl ⟨by rfl, ?y8⟩) (by assumption) ?r8
      case y8 =>
        intro w' hSw
        go_split_ands
        go_simp
        try with_reducible rfl
      try simp only [List.getElem_toArray, List.getElem_cons_zero, List.getElem_cons_succ, Act.put, List.setIfInBounds_toArray, List.set_cons_zero, List.set_cons_succ]
      refine wpAnyH_ready (rs := [14]) (by kernel_rfl) (by simp) ?_
      refine AllReadyH.cons (i := 14) rfl (fun K hK => ?_) AllReadyH.nil
      go_simp
      go_at_call 24
      (with_reducible refine Calls.mono (HBH.out _) ?_)
      rintro e w_9 ⟨v_12, rfl, ho, hb⟩
      have HO_11 := Lib.hid ho.sl
      have HB_10 := Lib.hid ((HB_8.out).trans (hb.mono (HB_8.out).size))
      clear ho hb
      refine hK.out _ _ (HB_10.out) (fun hHeld' => ?_)
      clear hHeld hK K
      have hHeld := hHeld'
      clear hHeld'
      try simp only [List.getElem_toArray, List.getElem_cons_zero, List.getElem_cons_succ, Act.put, List.setIfInBounds_toArray, List.set_cons_zero, List.set_cons_succ]
      refine wpAnyH_ready (rs := [15, 17]) (by kernel_rfl) (by simp) ?_
      refine (AllReadyH.cons (i := 15) rfl (fun K hK => ?_) (AllReadyH.cons (i := 17) rfl (fun K hK => ?_) AllReadyH.nil))
      · have kc := conv_any HO_11.out
        rw [HLS.out] at kc
        go_simp
        clear kc
        refine hK.out _ _ (HB_10.out) (fun hHeld' => ?_)
        clear hHeld hK K
        have hHeld := hHeld'
        clear hHeld'
        try simp only [List.getElem_toArray, List.getElem_cons_zero, List.getElem_cons_succ, Act.put, List.setIfInBounds_toArray, List.set_cons_zero, List.set_cons_succ]
        refine wpAnyH_ready (rs := [17]) (by kernel_rfl) (by simp) ?_
        refine AllReadyH.cons (i := 17) rfl (fun K hK => ?_) AllReadyH.nil
        go_simp
        go_at_call 32
        (with_reducible refine Calls.mono (HRB.out _) ?_)
        rintro e w_13 ⟨v_16, rfl, ho, hb⟩
        have HO_15 := Lib.hid ho.sl
        have HB_14 := Lib.hid ((HB_10.out).trans (hb.mono (HB_10.out).size))
        have HO_17 := Lib.hid (HO_11.out.below hb (Nat.le_refl _))
        clear ho hb
        refine hK.out _ _ (HB_14.out) (fun hHeld' => ?_)
        clear hHeld hK K
        have hHeld := hHeld'
        clear hHeld'
        try simp only [List.getElem_toArray, List.getElem_cons_zero, List.getElem_cons_succ, Act.put, List.setIfInBounds_toArray, List.set_cons_zero, List.set_cons_succ]
        refine wpAnyH_ready (rs := [18]) (by kernel_rfl) (by simp) ?_
        refine AllReadyH.cons (i := 18) rfl (fun K hK => ?_) AllReadyH.nil
        have kc := conv_any HO_15.out
        rw [HLS.out] at kc
        go_simp
        clear kc
        refine hK.out _ _ (HB_14.out) (fun hHeld' => ?_)
        clear hHeld hK K
        have hHeld := hHeld'
        clear hHeld'
        try simp only [List.getElem_toArray, List.getElem_cons_zero, List.getElem_cons_succ, Act.put, List.setIfInBounds_toArray, List.set_cons_zero, List.set_cons_succ]
        refine wpAnyH_take (i := 19) (v := ?v9) rfl (by kernel_rfl) (by kernel_rfl) (by kernel_rfl) (fun _ _ _ h => h) (Or.inl ⟨by rfl, ?y9⟩) (by assumption) ?r9
        case y9 =>
          intro w' hSw
          go_split_ands
          go_simp
          try with_reducible rfl
        try simp only [List.getElem_toArray, List.getElem_cons_zero, List.getElem_cons_succ, Act.put, List.setIfInBounds_toArray, List.set_cons_zero, List.set_cons_succ]
        refine wpAnyH_take (i := 20) (v := ?v10) rfl (by kernel_rfl) (by kernel_rfl) (by kernel_rfl) (fun _ _ _ h => h) (Or.inl ⟨by rfl, ?y10⟩) (by assumption) ?r10
        case y10 =>
          intro w' hSw
          go_split_ands
          go_simp
          try with_reducible rfl
        try simp only [List.getElem_toArray, List.getElem_cons_zero, List.getElem_cons_succ, Act.put, List.setIfInBounds_toArray, List.set_cons_zero, List.set_cons_succ]
        refine wpAnyH_take (i := 21) (v := ?v11) rfl (by kernel_rfl) (by kernel_rfl) (by kernel_rfl) (fun _ _ _ h => h) (Or.inl ⟨by rfl, ?y11⟩) (by assumption) ?r11
        case y11 =>
          intro w' hSw
          go_split_ands
          go_simp
          try with_reducible rfl
        try simp only [List.getElem_toArray, List.getElem_cons_zero, List.getElem_cons_succ, Act.put, List.setIfInBounds_toArray, List.set_cons_zero, List.set_cons_succ]
        refine wpAnyH_ready (rs := [22]) (by kernel_rfl) (by simp) ?_
        refine AllReadyH.cons (i := 22) rfl (fun K hK => ?_) AllReadyH.nil
        go_simp
        go_at_call 23
        refine (HAW.out _ (HV.out.trans ((HB_14.out).mono HV.out.size))).mono ?_
        rintro e w_18 ⟨rfl, hb⟩
        have HB_19 := Lib.hid ((HB_14.out).trans (hb.mono (HB_14.out).size))
        clear hb
        refine hK.out _ _ (HB_19.out) (fun hHeld' => ?_)
        clear hHeld hK K
        have hHeld := hHeld'
        clear hHeld'
        try simp only [List.getElem_toArray, List.getElem_cons_zero, List.getElem_cons_succ, Act.put, List.setIfInBounds_toArray, List.set_cons_zero, List.set_cons_succ]
        refine wpAnyH_take (i := 23) (v := ?v12) rfl (by kernel_rfl) (by kernel_rfl) (by kernel_rfl) (fun _ _ _ h => h) (Or.inl ⟨by rfl, ?y12⟩) (by assumption) ?r12
        case y12 =>
          intro w' hSw
          go_split_ands
          go_simp
          try with_reducible rfl
        try simp only [List.getElem_toArray, List.getElem_cons_zero, List.getElem_cons_succ, Act.put, List.setIfInBounds_toArray, List.set_cons_zero, List.set_cons_succ]
        refine wpAnyH_take (i := 24) (v := ?v13) rfl (by kernel_rfl) (by kernel_rfl) (by kernel_rfl) (fun _ _ _ h => h) (Or.inl ⟨by rfl, ?y13⟩) (by assumption) ?r13
        case y13 =>
          intro w' hSw
          go_split_ands
          go_simp
          try with_reducible rfl
        try simp only [List.getElem_toArray, List.getElem_cons_zero, List.getElem_cons_succ, Act.put, List.setIfInBounds_toArray, List.set_cons_zero, List.set_cons_succ]
        refine wpAnyH_done (by kernel_rfl) ?_ _
        go_wp2
        go_ret
        exact ⟨rfl, HV.out.trans ((HB_19.out).mono HV.out.size)⟩
      · go_simp
        go_at_call 32
        (with_reducible refine Calls.mono (HRB.out _) ?_)
        rintro e w_20 ⟨v_23, rfl, ho, hb⟩
        have HO_22 := Lib.hid ho.sl
        have HB_21 := Lib.hid ((HB_10.out).trans (hb.mono (HB_10.out).size))
        have HO_24 := Lib.hid (HO_11.out.below hb (Nat.le_refl _))
        clear ho hb
        refine hK.out _ _ (HB_21.out) (fun hHeld' => ?_)
        clear hHeld hK K
        have hHeld := hHeld'
        clear hHeld'
        try simp only [List.getElem_toArray, List.getElem_cons_zero, List.getElem_cons_succ, Act.put, List.setIfInBounds_toArray, List.set_cons_zero, List.set_cons_succ]
        refine wpAnyH_ready (rs := [15, 18]) (by kernel_rfl) (by simp) ?_
        refine (AllReadyH.cons (i := 15) rfl (fun K hK => ?_) (AllReadyH.cons (i := 18) rfl (fun K hK => ?_) AllReadyH.nil))
        · have kc := conv_any HO_24.out
          rw [HLS.out] at kc
          go_simp
          clear kc
          refine hK.out _ _ (HB_21.out) (fun hHeld' => ?_)
          clear hHeld hK K
          have hHeld := hHeld'
          clear hHeld'
          try simp only [List.getElem_toArray, List.getElem_cons_zero, List.getElem_cons_succ, Act.put, List.setIfInBounds_toArray, List.set_cons_zero, List.set_cons_succ]
          refine wpAnyH_ready (rs := [18]) (by kernel_rfl) (by simp) ?_
          refine AllReadyH.cons (i := 18) rfl (fun K hK => ?_) AllReadyH.nil
          have kc := conv_any HO_22.out
          rw [HLS.out] at kc
          go_simp
          clear kc
          refine hK.out _ _ (HB_21.out) (fun hHeld' => ?_)
          clear hHeld hK K
          have hHeld := hHeld'
          clear hHeld'
          try simp only [List.getElem_toArray, List.getElem_cons_zero, List.getElem_cons_succ, Act.put, List.setIfInBounds_toArray, List.set_cons_zero, List.set_cons_succ]
          refine wpAnyH_take (i := 19) (v := ?v14) rfl (by kernel_rfl) (by kernel_rfl) (by kernel_rfl) (fun _ _ _ h => h) (Or.inl ⟨by rfl, ?y14⟩) (by assumption) ?r14
          case y14 =>
            intro w' hSw
            go_split_ands
            go_simp
            try with_reducible rfl
          try simp only [List.getElem_toArray, List.getElem_cons_zero, List.getElem_cons_succ, Act.put, List.setIfInBounds_toArray, List.set_cons_zero, List.set_cons_succ]
          refine wpAnyH_take (i := 20) (v := ?v15) rfl (by kernel_rfl) (by kernel_rfl) (by kernel_rfl) (fun _ _ _ h => h) (Or.inl ⟨by rfl, ?y15⟩) (by assumption) ?r15
          case y15 =>
            intro w' hSw
            go_split_ands
            go_simp
            try with_reducible rfl
          try simp only [List.getElem_toArray, List.getElem_cons_zero, List.getElem_cons_succ, Act.put, List.setIfInBounds_toArray, List.set_cons_zero, List.set_cons_succ]
          refine wpAnyH_take (i := 21) (v := ?v16) rfl (by kernel_rfl) (by kernel_rfl) (by kernel_rfl) (fun _ _ _ h => h) (Or.inl ⟨by rfl, ?y16⟩) (by assumption) ?r16
          case y16 =>
            intro w' hSw
            go_split_ands
            go_simp
            try with_reducible rfl
          try simp only [List.getElem_toArray, List.getElem_cons_zero, List.getElem_cons_succ, Act.put, List.setIfInBounds_toArray, List.set_cons_zero, List.set_cons_succ]
          refine wpAnyH_ready (rs := [22]) (by kernel_rfl) (by simp) ?_
          refine AllReadyH.cons (i := 22) rfl (fun K hK => ?_) AllReadyH.nil
          go_simp
          go_at_call 23
          refine (HAW.out _ (HV.out.trans ((HB_21.out).mono HV.out.size))).mono ?_
          rintro e w_25 ⟨rfl, hb⟩
          have HB_26 := Lib.hid ((HB_21.out).trans (hb.mono (HB_21.out).size))
          clear hb
          refine hK.out _ _ (HB_26.out) (fun hHeld' => ?_)
          clear hHeld hK K
          have hHeld := hHeld'
          clear hHeld'
          try simp only [List.getElem_toArray, List.getElem_cons_zero, List.getElem_cons_succ, Act.put, List.setIfInBounds_toArray, List.set_cons_zero, List.set_cons_succ]
          refine wpAnyH_take (i := 23) (v := ?v17) rfl (by kernel_rfl) (by kernel_rfl) (by kernel_rfl) (fun _ _ _ h => h) (Or.inl ⟨by rfl, ?y17⟩) (by assumption) ?r17
          case y17 =>
            intro w' hSw
            go_split_ands
            go_simp
            try with_reducible rfl
          try simp only [List.getElem_toArray, List.getElem_cons_zero, List.getElem_cons_succ, Act.put, List.setIfInBounds_toArray, List.set_cons_zero, List.set_cons_succ]
          refine wpAnyH_take (i := 24) (v := ?v18) rfl (by kernel_rfl) (by kernel_rfl) (by kernel_rfl) (fun _ _ _ h => h) (Or.inl ⟨by rfl, ?y18⟩) (by assumption) ?r18
          case y18 =>
            intro w' hSw
            go_split_ands
            go_simp
            try with_reducible rfl
          try simp only [List.getElem_toArray, List.getElem_cons_zero, List.getElem_cons_succ, Act.put, List.setIfInBounds_toArray, List.set_cons_zero, List.set_cons_succ]
          refine wpAnyH_done (by kernel_rfl) ?_ _
          go_wp2
          go_ret
          exact ⟨rfl, HV.out.trans ((HB_26.out).mono HV.out.size)⟩
        · have kc := conv_any HO_22.out
          rw [HLS.out] at kc
          go_simp
          clear kc
          refine hK.out _ _ (HB_21.out) (fun hHeld' => ?_)
          clear hHeld hK K
          have hHeld := hHeld'
          clear hHeld'
          try simp only [List.getElem_toArray, List.getElem_cons_zero, List.getElem_cons_succ, Act.put, List.setIfInBounds_toArray, List.set_cons_zero, List.set_cons_succ]
          refine wpAnyH_ready (rs := [15]) (by kernel_rfl) (by simp) ?_
          refine AllReadyH.cons (i := 15) rfl (fun K hK => ?_) AllReadyH.nil
          have kc := conv_any HO_24.out
          rw [HLS.out] at kc
          go_simp
          clear kc
          refine hK.out _ _ (HB_21.out) (fun hHeld' => ?_)
          clear hHeld hK K
          have hHeld := hHeld'
          clear hHeld'
          try simp only [List.getElem_toArray, List.getElem_cons_zero, List.getElem_cons_succ, Act.put, List.setIfInBounds_toArray, List.set_cons_zero, List.set_cons_succ]
          refine wpAnyH_take (i := 19) (v := ?v19) rfl (by kernel_rfl) (by kernel_rfl) (by kernel_rfl) (fun _ _ _ h => h) (Or.inl ⟨by rfl, ?y19⟩) (by assumption) ?r19
          case y19 =>
            intro w' hSw
            go_split_ands
            go_simp
            try with_reducible rfl
          try simp only [List.getElem_toArray, List.getElem_cons_zero, List.getElem_cons_succ, Act.put, List.setIfInBounds_toArray, List.set_cons_zero, List.set_cons_succ]
          refine wpAnyH_take (i := 20) (v := ?v20) rfl (by kernel_rfl) (by kernel_rfl) (by kernel_rfl) (fun _ _ _ h => h) (Or.inl ⟨by rfl, ?y20⟩) (by assumption) ?r20
          case y20 =>
            intro w' hSw
            go_split_ands
            go_simp
            try with_reducible rfl
          try simp only [List.getElem_toArray, List.getElem_cons_zero, List.getElem_cons_succ, Act.put, List.setIfInBounds_toArray, List.set_cons_zero, List.set_cons_succ]
          refine wpAnyH_take (i := 21) (v := ?v21) rfl (by kernel_rfl) (by kernel_rfl) (by kernel_rfl) (fun _ _ _ h => h) (Or.inl ⟨by rfl, ?y21⟩) (by assumption) ?r21
          case y21 =>
            intro w' hSw
            go_split_ands
            go_simp
            try with_reducible rfl
          try simp only [List.getElem_toArray, List.getElem_cons_zero, List.getElem_cons_succ, Act.put, List.setIfInBounds_toArray, List.set_cons_zero, List.set_cons_succ]
          refine wpAnyH_ready (rs := [22]) (by kernel_rfl) (by simp) ?_
          refine AllReadyH.cons (i := 22) rfl (fun K hK => ?_) AllReadyH.nil
          go_simp
          go_at_call 23
          refine (HAW.out _ (HV.out.trans ((HB_21.out).mono HV.out.size))).mono ?_
          rintro e w_27 ⟨rfl, hb⟩
          have HB_28 := Lib.hid ((HB_21.out).trans (hb.mono (HB_21.out).size))
          clear hb
          refine hK.out _ _ (HB_28.out) (fun hHeld' => ?_)
          clear hHeld hK K
          have hHeld := hHeld'
          clear hHeld'
          try simp only [List.getElem_toArray, List.getElem_cons_zero, List.getElem_cons_succ, Act.put, List.setIfInBounds_toArray, List.set_cons_zero, List.set_cons_succ]
          refine wpAnyH_take (i := 23) (v := ?v22) rfl (by kernel_rfl) (by kernel_rfl) (by kernel_rfl) (fun _ _ _ h => h) (Or.inl ⟨by rfl, ?y22⟩) (by assumption) ?r22
          case y22 =>
            intro w' hSw
            go_split_ands
            go_simp
            try with_reducible rfl
          try simp only [List.getElem_toArray, List.getElem_cons_zero, List.getElem_cons_succ, Act.put, List.setIfInBounds_toArray, List.set_cons_zero, List.set_cons_succ]
          refine wpAnyH_take (i := 24) (v := ?v23) rfl (by kernel_rfl) (by kernel_rfl) (by kernel_rfl) (fun _ _ _ h => h) (Or.inl ⟨by rfl, ?y23⟩) (by assumption) ?r23
          case y23 =>
            intro w' hSw
            go_split_ands
            go_simp
            try with_reducible rfl
          try simp only [List.getElem_toArray, List.getElem_cons_zero, List.getElem_cons_succ, Act.put, List.setIfInBounds_toArray, List.set_cons_zero, List.set_cons_succ]
          refine wpAnyH_done (by kernel_rfl) ?_ _
          go_wp2
          go_ret
          exact ⟨rfl, HV.out.trans ((HB_28.out).mono HV.out.size)⟩
      -- REG A END
end Go.Proofs.YtnoilogepkelaaaDoor
