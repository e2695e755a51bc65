/-
  slots.Open: the way through.
-/
import Derived.Test.YtdnjjemdnlegdaaSloJ2
namespace Go.Proofs.Ytdnjjemdnlegdaa
set_option linter.unusedVariables false
set_option linter.unusedSimpArgs false
open Go Go.RowKit Go.Shelf
attribute [local go_sem] Oper.semAt_some

theorem foundV_size (g off cap : Nat) (F : Slo.Found) : (foundV g off cap F).size = 2 := by cases F <;> rfl
theorem foundV_one (g off cap : Nat) (F : Slo.Found) : (foundV g off cap F).all (·.oneCell') = true := by cases F <;> simp [foundV, Value.oneCell']
set_option maxRecDepth 100000 in
set_option maxHeartbeats 8000000 in
theorem open_go {w : World} {p g : Nat} {d : Dk.D} (hD : DiskAt w p g d) (fr n : Nat) (k2 : 1 ≤ n) (k4 : fr + n ≤ d.b.length / 128) (hoff : d.off = false) :
    Calls Try.prog 31 #[.pointer (some ⟨p, 0, none⟩), .int .i64 (fr : Int), .int .i64 (n : Int)] w (OpenR w p g (if (Slo.parse n (Slo.region d fr n)).2 = true then (some ⟨fr, n, (Slo.parse n (Slo.region d fr n)).1, Slo.used (Slo.parse n (Slo.region d fr n)).1, false⟩, 0) else (none, 9))) := by
  have hp := hD.pos
  have HS := Lib.hid (fun W (hW : Below w.heap.size w W) => dk_sectors (hD.below hW (Nat.le_refl _)))
  have hr : Dk.read d (fr : Int) (n : Int) = (Slo.region d fr n, 0) := by
    have hm : Dk.may d (fr : Int) (n : Int) = 0 := (Dk.may_zero d fr n).2 ⟨⟨by omega, by omega, by omega⟩, hoff⟩
    unfold Dk.read
    rw [if_neg (by rw [hm]; simp)]; rfl
  have hrl := Slo.region_length d fr n (by omega)
  obtain ⟨b, hb⟩ : ∃ b, Slo.region d fr n = b := ⟨_, rfl⟩
  rw [hb] at hr hrl ⊢
  have HRD := Lib.hid (fun W (hW : Below w.heap.size w W) => (dk_read (hD.below hW (Nat.le_refl _)) fr n (by omega) (by omega) (by omega)).mono (R' := fun e w' => ∃ gd cap, e = .returned (.tuple #[.slice (some ⟨gd, 0, none⟩) (128 * n) cap, .int .i64 0]) ∧ W.heap.size ≤ gd ∧ gd < w'.heap.size ∧ 128 * n ≤ cap ∧ cap ≤ maxLen ∧ SlB w' (.slice (some ⟨gd, 0, none⟩) (128 * n) cap) b ∧ Below W.heap.size W w') (by
    rintro e w' ⟨v, rfl, ho, hbl⟩
    rw [hr] at ho ⊢
    obtain ⟨gd, cap, rfl, h1, h2, h3, h4⟩ := ho.form (128 * n) hrl (by omega)
    have hbd := ho.sl.bounds
    exact ⟨gd, cap, rfl, h1, h2, h3, hbd.2.2, ho.sl, hbl⟩))
  obtain ⟨R, hR⟩ : ∃ R : Option Slo.L × Int, (if (Slo.parse n b).2 = true then (some ⟨fr, n, (Slo.parse n b).1, Slo.used (Slo.parse n b).1, false⟩, 0) else (none, 9)) = R := ⟨_, rfl⟩
  rw [hR]
  have HR := Lib.hid hR
  obtain ⟨M, hM⟩ : ∃ M, d.b.length / 128 = M := ⟨_, rfl⟩
  rw [hM] at HS k4
  have hM1 : 1 ≤ M ∧ M ≤ 16384 := by omega
  obtain ⟨W, hW, hBW, hWs, h6, h7⟩ := alloc2 w (.cells #[.pointer none] 49) (.cells #[.int .i64 0] 27)
  have HW := Lib.hid hW
  have HBW := Lib.hid hBW
  have H67 := Lib.hid (And.intro h6 h7)
  have hM0 : ¬ (M : Int) = 0 := by omega
  have hM2 : M ≠ 0 := by omega
  have k0 : ¬ (fr : Int) < 0 := by omega
  have k3 : ¬ (n : Int) < 1 := by omega
  have k5 : ¬ (M : Int) < n := by omega
  have k6 : ¬ (M : Int) - n < fr := by omega
  have k7 : IntKind.i64.wrap ((M : Int) - n) = M - n := by rw [IntKind.wrap_i64]; omega
  have HD := Lib.hid hD
  have HRL := Lib.hid hrl
  have HNM := Lib.hid (And.intro k2 (And.intro k4 hM1))
  clear hW hBW h6 h7 hD hp hM hr k2 k4 hrl hb hM1 hR
  refine (callsIn_wide (n := 6)).1 ?_
  refine callsIn_of_wp_marks Try.func31 rfl trivial ?_ rfl
  simp only [Try.ntmps31, List.size_toArray, List.length_cons, List.length_nil, Nat.reduceAdd, Nat.reduceSub, Array.replicate_succ, Array.replicate_zero, List.push_toArray, List.append_toArray, List.nil_append, List.cons_append]
  gi_wp2_with (first
    | (refine ⟨trivial, ?_⟩; gi_at_call 27; rw [HW.out]; refine (callsIn_wide.2 (HS.out W HBW.out)).mono ?_; rintro e w' ⟨rfl, rfl⟩)
    | (refine ⟨trivial, ?_⟩; gi_at_call 26; refine (callsIn_wide.2 (HRD.out W HBW.out)).mono ?_; rintro e w2 ⟨gd, cap, rfl, hg1, hg2, hc1, hc2, hsl, hb2⟩; have HRR := Lib.hid (And.intro hg1 (And.intro hg2 (And.intro hc1 (And.intro hc2 (And.intro hsl hb2))))); clear hg1 hg2 hc1 hc2 hsl hb2)
    | (refine ⟨trivial, ?_⟩; gi_at_call 55; refine (callsIn_wide.2 (all_box _ _ _ _)).mono ?_; rintro e w4 ⟨rfl, hb4, hz4, hr4⟩; have HALL := Lib.hid (And.intro hb4 (And.intro hz4 hr4)); clear hb4 hz4 hr4))
  obtain ⟨hg1, hg2, hc1, hc2, hsl, hb2⟩ := HRR.out
  obtain ⟨hb4, hz4, hr4⟩ := HALL.out
  have hnm := HNM.out
  have hbw := HBW.out
  have hlp := HD.out.ltp
  have hlg := HD.out.ltg
  rw [World.size_alloc, World.size_alloc] at hz4 hr4 hb4
  have hq2 := hb2.size
  have hrl := HRL.out
  have hB42 : Below w2.heap.size w2 w4 := (((Below.refl _ w2).alloc (Nat.le_refl _) _).alloc (by simp) _).trans (hb4.mono (by omega))
  have hq : w4.heap[w2.heap.size]? = some (.cells #[.pointer (some ⟨p, 0, none⟩), .int .i64 (fr : Int), .int .i64 (n : Int), .slice none 0 0, .int .i64 0, .bool false] 75 (0, 0)) :=
    (hb4.block _ (by omega)).trans ((Below.heap_alloc _ _ _ (by simp)).trans (heap_alloc_new _ _))
  have hq1 : w4.heap[w2.heap.size + 1]? = some (.cells #[.pointer (some ⟨w2.heap.size, 0, none⟩)] 49 (0, 0)) := by
    refine (hb4.block _ (by omega)).trans ?_
    have := heap_alloc_new (w2.alloc (.cells #[.pointer (some ⟨p, 0, none⟩), .int .i64 (fr : Int), .int .i64 (n : Int), .slice none 0 0, .int .i64 0, .bool false] 75)) (.cells #[.pointer (some ⟨w2.heap.size, 0, none⟩)] 49)
    rwa [World.size_alloc] at this
  have hwl : Below w.heap.size w w4 := hbw.trans ((hb2.trans (hB42.mono hq2)).mono (by omega))
  have hc6 : w4.heap[w.heap.size]? = some (.cells #[.pointer none] 49 (0, 0)) := ((hb2.trans (hB42.mono hq2)).block _ (by omega)).trans H67.out.1
  have hc7 : w4.heap[w.heap.size + 1]? = some (.cells #[.int .i64 0] 27 (0, 0)) := ((hb2.trans (hB42.mono hq2)).block _ (by omega)).trans H67.out.2
  have hsl4 : SlB w4 (.slice (some ⟨gd, 0, none⟩) b.length cap) b := by rw [hrl]; exact hsl.below hB42 (Nat.le_refl _)
  rw [← hrl] at hr4
  have hI0 : OpI w p g w2.heap.size gd w4.heap.size fr n cap b [] w4 :=
    ⟨⟨.slice none 0 0, [], ⟨hq, ⟨by omega, by omega⟩, Tx.nil _ _, ⟨(show fr ≤ 16384 by omega), (show n ≤ 16384 by omega), by simp [Slo.used], by simp [Slo.used]⟩⟩, fun k e => by simp [Value.ownBlock] at e, fun i hi => absurd hi (Nat.not_lt_zero _)⟩, hc6, hc7, hq1, hwl, hsl4⟩
  have HF := Lib.hid (And.intro hg1 (And.intro hg2 (And.intro hq2 (And.intro hWs hz4))))
  have HLT := Lib.hid (And.intro hlp hlg)
  have HIF := Lib.hid (fun (cs : Array Value) (h : cs.size = 2) => (show (Try.prog.info? 98).map (·.size) = some cs.size by rw [h]; kernel_rfl))
  refine wpIn_rangeFunc_cap1 (q := 12) rfl (by omega) (gf := 65) (lb := #[.pointer (some ⟨w2.heap.size + 1 + 1, 0, none⟩)]) rfl trivial (enters_of Try.func65 (by kernel_rfl) rfl)
    (all_stops 5 (w2.heap.size + 1 + 1) gd 0 cap n (by omega) b hrl (by omega) (by omega) (by omega) w4 hr4 hsl4) (by omega) (by omega) (Below.refl _ _) (fun s x h => by rw [h.2.2.2]; rfl)
    (OpI w p g w2.heap.size gd w4.heap.size fr n cap b) (fun _ => OpX w) (OpI.own (by omega)) (OpX.own (by omega)) (fun s W v h => h.cell (by omega) (by omega) (by omega) v) (fun s W v h => h.cell (by omega) v) hI0 98 ?assign ?body ?done ?stop
  case assign =>
    rintro l s x W K ⟨_, _, _, rfl⟩ hK
    clear HRR HALL HRD HS H67 hb4 hz4 hr4 hsl hb2 hsl4 hI0 hq hq1 hc6 hc7 hwl hB42
    generalize hcs : foundV gd _ _ _ = cs at hK ⊢
    have HS2 := Lib.hid (show cs.size = 2 by rw [← hcs]; exact foundV_size _ _ _ _)
    have HS1 := Lib.hid (show cs.all (·.oneCell') = true by rw [← hcs]; exact foundV_one _ _ _ _)
    have HK := Lib.hid hK
    clear hK hcs
    simp only [show ∀ v : Value, #[v].getD 0 undef = v from fun _ => rfl, List.setIfInBounds_toArray, List.set_cons_succ, List.set_cons_zero]
    gi_wp2_with (refine wpListIn_store_rowK rfl 98 (.tmp 12) (.tmp 54) rfl _ _ rfl rfl _ _ (heap_alloc_new _ _) (HIF.out _ HS2.out) HS2.out.symm HS1.out ?_; rw [World.setRow_alloc_new])
    exact HK.out
  case body =>
    rintro l m ts x W0 W5 ⟨hr1, hlt, hfb, rfl⟩ hI hgr hsz hm hrow
    clear HRR HALL HRD HS H67 hb4 hz4 hr4 hsl hb2 hsl4 hI0 hq hq1 hc6 hc7 hwl hB42
    have hIW : OpI w p g w2.heap.size gd w4.heap.size fr n cap b ts W5 := OpI.own (by have := HF.out; omega) ts W0 W5 none hI hgr (fun r e => by cases e)
    obtain ⟨vt, vs, hl0, hv1, hv2⟩ := hI.log
    have c6 : W5.cell? ⟨w.heap.size, 0, none⟩ = some (.pointer none) := cell_of_row _ _ 0 _ _ _ hIW.ret0
    have c7 : W5.cell? ⟨w.heap.size + 1, 0, none⟩ = some (.int .i64 0) := cell_of_row _ _ 0 _ _ _ hIW.ret1
    have c11 : W5.cell? ⟨w2.heap.size + 1, 0, none⟩ = some (.pointer (some ⟨w2.heap.size, 0, none⟩)) := cell_of_row _ _ 0 _ _ _ hIW.ptr
    have f6 : W5.frozen? ⟨w.heap.size, 0, none⟩ = false := frozen_of_row _ _ 0 _ _ hIW.ret0
    have f7 : W5.frozen? ⟨w.heap.size + 1, 0, none⟩ = false := frozen_of_row _ _ 0 _ _ hIW.ret1
    have HIW := Lib.hid hIW
    have hgs := hgr.size
    have HLG := Lib.hid (hl0.below (below_of_grown hgr) (Nat.le_refl _))
    have HVT := Lib.hid (And.intro hv1 hv2)
    have HV0 := Lib.hid (show ∀ k, vt.ownBlock = some k → k < W0.heap.size from fun k e => (World.ownsRow.lt hl0.tx.own k e).2)
    have HR1 := Lib.hid hr1
    have HLT1 := Lib.hid hlt
    have HSZ := Lib.hid (And.intro hsz (And.intro hm hgs))
    have HML := Lib.hid (Array.getElem?_eq_some_iff.1 hrow).1
    obtain ⟨Fd, hFd⟩ : ∃ F, Slo.slot (b.drop (128 * Slo.used ts)) = F := ⟨_, rfl⟩
    rw [hFd] at hfb hrow ⊢
    have HFD := Lib.hid hFd
    simp only [show ∀ v : Value, #[v].getD 0 undef = v from fun _ => rfl, List.setIfInBounds_toArray, List.set_cons_succ, List.set_cons_zero]
    clear hI hIW hgr hl0 hv1 hv2 hgs hr1 hlt hsz hm hFd
    rcases Fd with _ | _ | tx
    · cases hfb
    · have cm0 : W5.cell? ⟨m, 0, none⟩ = some (.slice none 0 0) := cell_of_row _ _ 0 _ _ _ hrow
      have cm1 : W5.cell? ⟨m, 1, none⟩ = some (.int .i64 9) := cell_of_row _ _ 1 _ _ _ hrow
      clear hrow
      simp only [foundV]
      have HBD := Lib.hid (HIW.out.bad (by have := HF.out; omega))
      gi_wp2
      gi_region_o
      all_goals
        gi_wp2
        have hpb := HR1.out.bad HLT1.out HFD.out n (by have := Slo.used_ge ts; have := HLT1.out; rw [HRL.out] at this; omega)
        first
          | exact ⟨HBD.out.1.1, hpb, HBD.out.1.2⟩
          | exact ⟨HBD.out.2.1, hpb, HBD.out.2.2⟩
    · obtain ⟨N, hN⟩ : ∃ N, tx.length = N := ⟨_, rfl⟩
      have hst := Slo.slot_text HFD.out
      have hlt := HLT1.out
      have hre := HR1.out.1
      have hsx : SlB W5 (.slice (some ⟨gd, 0 + 128 * Slo.used ts + 5, none⟩) N (cap - 128 * Slo.used ts - 5)) tx := by
        have h1 := ((HIW.out.data.drop (128 * Slo.used ts) (by omega)).drop 5 (by have := hst.2.2.2.1; have := Slo.taken_ge tx.length; rw [List.length_drop] at *; omega)).take N (by have := hst.2.2.2.1; have := Slo.taken_ge tx.length; rw [List.length_drop] at *; omega)
        rw [← hN, hst.2.2.2.2] at h1
        rw [← hN]
        exact h1
      have HSX := Lib.hid hsx
      have HST := Lib.hid (And.intro hst.2.2.1 hst.2.2.2.1)
      have HNE := Lib.hid hN
      simp only [foundV, cellsOf, hN] at hrow ⊢
      obtain ⟨ox, hox⟩ : ∃ ox, 0 + 128 * Slo.used ts + 5 = ox := ⟨_, rfl⟩
      obtain ⟨cx, hcx⟩ : ∃ cx, cap - 128 * Slo.used ts - 5 = cx := ⟨_, rfl⟩
      rw [hox, hcx] at HSX
      rw [hox, hcx] at hrow ⊢
      have cm0 : W5.cell? ⟨m, 0, none⟩ = some (.slice (some ⟨gd, ox, none⟩) N cx) := cell_of_row _ _ 0 _ _ _ hrow
      have cm1 : W5.cell? ⟨m, 1, none⟩ = some (.int .i64 0) := cell_of_row _ _ 1 _ _ _ hrow
      clear hrow hst hlt hre hsx hN hox hcx
      have hfs := HF.out
      have hsz := HSZ.out
      have hqw : w2.heap.size < W5.heap.size := by omega
      have hq1w : w2.heap.size + 1 < W5.heap.size := by omega
      have hmw : m < W5.heap.size := HML.out
      have hnq : some (w2.heap.size + 1) ≠ vt.ownBlock := fun e => by have := HVT.out.1 _ e.symm; omega
      have hnm : some m ≠ vt.ownBlock := fun e => by have := HV0.out _ e.symm; omega
      have hmq : m ≠ w2.heap.size := by omega
      have HVL := Lib.hid (show vs.length ≤ 1000000 by have h1 := HLG.out.tx.len; have h2 := HLG.out.small; have h3 : ts.length ≤ Slo.used ts := Slo.used_ge ts; have h4 : Slo.used ts ≤ n := h2.2.2.1; omega)
      obtain ⟨U, hU⟩ : ∃ U, Slo.used ts = U := ⟨_, rfl⟩
      obtain ⟨K, hK⟩ : ∃ K, Slo.taken N = K := ⟨_, rfl⟩
      have hst2 := HST.out
      rw [List.length_drop, HNE.out, hK, HRL.out, hU] at hst2
      have hUn : U ≤ n := by have h2 := HLG.out.small.2.2.1; rw [← hU]; exact h2
      have hnn := HNM.out
      have HTI := Lib.hid (fun W => (taken_any N (by omega) W).mono (R' := fun e w' => e = .returned (.int .i64 (K : Int)) ∧ w' = W) (by rintro e w' ⟨rfl, rfl⟩; rw [hK]; exact ⟨rfl, rfl⟩))
      have q2 : IntKind.i64.wrap ((U : Int) + K) = (U : Int) + K := by rw [IntKind.wrap_i64]; omega
      have HUK := Lib.hid (show Slo.used ts = U ∧ Slo.taken tx.length = K ∧ K ≤ n - U from ⟨hU, by rw [HNE.out]; exact hK, by omega⟩)
      have hw5 : w.heap.size ≤ W5.heap.size := HIW.out.below.size
      clear hfs hsz hU hK hst2 hUn hnn
      gi_wp2
      -- REG A BEGIN
      refine wpIn_region_held (S := fun W' => W'.cell? ⟨w2.heap.size + 1, 0, none⟩ = some (.pointer (some ⟨w2.heap.size, 0, none⟩)) ∧ W'.cell? ⟨m, 0, none⟩ = some (.slice (some ⟨gd, ox, none⟩) N cx)) (by kernel_rfl) (by kernel_rfl) (fun ⟨_, _, h⟩ => h) (⟨c11, cm0⟩) (fun hHeld => ?_)
      refine wpAnyH_take (i := 0) (v := ?v1) rfl (by kernel_rfl) (by kernel_rfl) (by kernel_rfl) (fun _ _ _ h => h) (Or.inl ⟨by rfl, ?y1⟩) (by assumption) ?r1
      case y1 =>
        intro w' hSw
        go_split_ands
        go_simp
        try with_reducible rfl
      try simp only [List.getElem_toArray, List.getElem_cons_zero, List.getElem_cons_succ, Act.put, List.setIfInBounds_toArray, List.set_cons_zero, List.set_cons_succ]
      refine wpAnyH_take (i := 1) (v := ?v2) rfl (by kernel_rfl) (by kernel_rfl) (by kernel_rfl) (fun _ _ _ h => h) (Or.inl ⟨by rfl, ?y2⟩) (by assumption) ?r2
      case y2 =>
        intro w' hSw
        go_split_ands
        go_simp
        try with_reducible rfl
      try simp only [List.getElem_toArray, List.getElem_cons_zero, List.getElem_cons_succ, Act.put, List.setIfInBounds_toArray, List.set_cons_zero, List.set_cons_succ]
      refine wpAnyH_take (i := 2) (v := ?v3) rfl (by kernel_rfl) (by kernel_rfl) (by kernel_rfl) (fun _ _ _ h => h) (Or.inl ⟨by rfl, ?y3⟩) (by assumption) ?r3
      case y3 =>
        intro w' hSw
        go_split_ands
        go_simp
        try with_reducible rfl
      try simp only [List.getElem_toArray, List.getElem_cons_zero, List.getElem_cons_succ, Act.put, List.setIfInBounds_toArray, List.set_cons_zero, List.set_cons_succ]
      refine wpAnyH_take (i := 3) (v := ?v4) rfl (by kernel_rfl) (by kernel_rfl) (by kernel_rfl) (fun _ _ _ h => h) (Or.inl ⟨by rfl, ?y4⟩) (by assumption) ?r4
      case y4 =>
        intro w' hSw
        go_split_ands
        go_simp
        try with_reducible rfl
      try simp only [List.getElem_toArray, List.getElem_cons_zero, List.getElem_cons_succ, Act.put, List.setIfInBounds_toArray, List.set_cons_zero, List.set_cons_succ]
      refine wpAnyH_take (i := 5) (v := ?v5) rfl (by kernel_rfl) (by kernel_rfl) (by kernel_rfl) (fun _ _ _ h => h) (Or.inl ⟨by rfl, ?y5⟩) (by assumption) ?r5
      case y5 =>
        intro w' hSw
        go_split_ands
        go_simp
        try with_reducible rfl
      try simp only [List.getElem_toArray, List.getElem_cons_zero, List.getElem_cons_succ, Act.put, List.setIfInBounds_toArray, List.set_cons_zero, List.set_cons_succ]
      refine wpAnyH_take (i := 6) (v := ?v6) rfl (by kernel_rfl) (by kernel_rfl) (by kernel_rfl) (fun _ _ _ h => h) (Or.inl ⟨by rfl, ?y6⟩) (by assumption) ?r6
      case y6 =>
        intro w' hSw
        go_split_ands
        go_simp
        try with_reducible rfl
      try simp only [List.getElem_toArray, List.getElem_cons_zero, List.getElem_cons_succ, Act.put, List.setIfInBounds_toArray, List.set_cons_zero, List.set_cons_succ]
      refine wpAnyH_ready (rs := [4, 7]) (by kernel_rfl) (by simp) ?_
      refine (AllReadyH.cons (i := 4) rfl (fun K hK => ?_) (AllReadyH.cons (i := 7) rfl (fun K hK => ?_) AllReadyH.nil))
      · have c3 : W5.drew.cell? ⟨w2.heap.size, 3, none⟩ = some vt := HLG.out.c3
        go_simp
        refine hK.out _ _ (hHeld) (fun hHeld' => ?_)
        clear hHeld hK K
        have hHeld := hHeld'
        clear hHeld'
        try simp only [List.getElem_toArray, List.getElem_cons_zero, List.getElem_cons_succ, Act.put, List.setIfInBounds_toArray, List.set_cons_zero, List.set_cons_succ]
        refine wpAnyH_ready (rs := [7]) (by kernel_rfl) (by simp) ?_
        refine AllReadyH.cons (i := 7) rfl (fun K hK => ?_) AllReadyH.nil
        go_simp
        go_at_call 48
        (with_reducible refine Calls.mono (clone_any _ tx _ HSX.out.drew (by rw [HNE.out]; have := HST.out.1; rw [HNE.out] at this; omega)) ?_)
        rintro e wd ⟨vd, rfl, ho, hb⟩
        obtain ⟨a2, cp2, rfl⟩ := ho.sl.len
        have HOd := Lib.hid ho
        have HBd := Lib.hid (show Below W5.heap.size W5 wd from below_undrew hb)
        clear ho hb
        refine hK.out _ _ (⟨(HBd.out.cell (p := ⟨w2.heap.size + 1, 0, none⟩) hq1w).trans hHeld.1, (HBd.out.cell (p := ⟨m, 0, none⟩) hmw).trans hHeld.2⟩) (fun hHeld' => ?_)
        clear hHeld hK K
        have hHeld := hHeld'
        clear hHeld'
        try simp only [List.getElem_toArray, List.getElem_cons_zero, List.getElem_cons_succ, Act.put, List.setIfInBounds_toArray, List.set_cons_zero, List.set_cons_succ]
        refine wpAnyH_ready (rs := [8]) (by kernel_rfl) (by simp) ?_
        refine AllReadyH.cons (i := 8) rfl (fun K hK => ?_) AllReadyH.nil
        go_simp
        refine hK.out _ _ (⟨(((Below.refl wd.heap.size wd).alloc (Nat.le_refl _) _).cell (p := ⟨w2.heap.size + 1, 0, none⟩) (Nat.lt_of_lt_of_le hq1w HBd.out.size)).trans hHeld.1, (((Below.refl wd.heap.size wd).alloc (Nat.le_refl _) _).cell (p := ⟨m, 0, none⟩) (Nat.lt_of_lt_of_le hmw HBd.out.size)).trans hHeld.2⟩) (fun hHeld' => ?_)
        clear hHeld hK K
        have hHeld := hHeld'
        clear hHeld'
        try simp only [List.getElem_toArray, List.getElem_cons_zero, List.getElem_cons_succ, Act.put, List.setIfInBounds_toArray, List.set_cons_zero, List.set_cons_succ]
        refine wpAnyH_ready (rs := [9]) (by kernel_rfl) (by simp) ?_
        refine AllReadyH.cons (i := 9) rfl (fun K hK => ?_) AllReadyH.nil
        refine any_of_list (by rfl) (fun Q' hQ' => ?_)
        try simp only [List.getElem_toArray, List.getElem_cons_zero, List.getElem_cons_succ]
        refine wpList_append_l1 rfl (.tmp 64) (.tmp 68) 47 22 rfl Try.underlying47 info_sl vt vs ((HLG.out.tx.own.below (B := W5.heap.size) HBd.out (Nat.le_refl _)).alloc _) rfl wd.heap.size (.slice a2 _ cp2) rfl (cell_new1 _ _ _) rfl HVL.out ?_
        intro v2 w7 ho hg hat
        have HO2 := Lib.hid ho
        have HG2 := Lib.hid hg
        have HAT := Lib.hid hat
        obtain ⟨g2, cap2, hv2⟩ := ho.form1
        subst hv2
        clear ho hg hat
        refine hQ' _ _ (hK.out _ _ (⟨(World.cell?_of_block (a := ⟨w2.heap.size + 1, 0, none⟩) (HG2.out.block _ (by have := HBd.out.size; simp; omega) hnq)).trans hHeld.1, (World.cell?_of_block (a := ⟨m, 0, none⟩) (HG2.out.block _ (by have := HBd.out.size; simp; omega) hnm)).trans hHeld.2⟩) (fun hHeld' => ?_))
        clear hHeld hK K hQ' Q'
        have hHeld := hHeld'
        clear hHeld'
        try simp only [List.getElem_toArray, List.getElem_cons_zero, List.getElem_cons_succ, Act.put, List.setIfInBounds_toArray, List.set_cons_zero, List.set_cons_succ]
        refine wpAnyH_take (i := 10) (v := ?v7) rfl (by kernel_rfl) (by kernel_rfl) (by kernel_rfl) (fun _ _ _ h => h) (Or.inl ⟨by rfl, ?y7⟩) (by assumption) ?r7
        case y7 =>
          intro w' hSw
          go_split_ands
          go_simp
          try with_reducible rfl
        try simp only [List.getElem_toArray, List.getElem_cons_zero, List.getElem_cons_succ, Act.put, List.setIfInBounds_toArray, List.set_cons_zero, List.set_cons_succ]
        refine wpAnyH_take (i := 11) (v := ?v8) rfl (by kernel_rfl) (by kernel_rfl) (by kernel_rfl) (fun _ _ _ h => h) (Or.inl ⟨by rfl, ?y8⟩) (by assumption) ?r8
        case y8 =>
          intro w' hSw
          go_split_ands
          go_simp
          try with_reducible rfl
        try simp only [List.getElem_toArray, List.getElem_cons_zero, List.getElem_cons_succ, Act.put, List.setIfInBounds_toArray, List.set_cons_zero, List.set_cons_succ]
        refine wpAnyH_ready (rs := [12]) (by kernel_rfl) (by simp) ?_
        refine AllReadyH.cons (i := 12) rfl (fun K hK => ?_) AllReadyH.nil
        have hrq := app_row HLG.out HBd.out HG2.out
        have c3 : w7.cell? ⟨w2.heap.size, 3, none⟩ = some vt := cell_of_row w7 _ 3 _ _ _ hrq
        have f3 : w7.frozen? ⟨w2.heap.size, 3, none⟩ = false := frozen_of_row w7 _ 3 _ _ hrq
        go_simp
        refine hK.out _ _ (⟨(World.cell?_of_block (a := ⟨w2.heap.size + 1, 0, none⟩) (heap_setCell_other w7 ⟨w2.heap.size, 3, none⟩ _ _ (by simp))).trans hHeld.1, (World.cell?_of_block (a := ⟨m, 0, none⟩) (heap_setCell_other w7 ⟨w2.heap.size, 3, none⟩ _ _ hmq)).trans hHeld.2⟩) (fun hHeld' => ?_)
        clear hHeld hK K
        have hHeld := hHeld'
        clear hHeld'
        try simp only [List.getElem_toArray, List.getElem_cons_zero, List.getElem_cons_succ, Act.put, List.setIfInBounds_toArray, List.set_cons_zero, List.set_cons_succ]
        refine wpAnyH_done (by kernel_rfl) ?_ _
        have hE := app_end HLG.out (Nat.lt_of_lt_of_le HLT.out.1 hw5) (Nat.lt_of_lt_of_le HLT.out.2 hw5) (show OwnB 5 W5.heap.size wd _ tx from HOd.out) HBd.out HG2.out HO2.out HAT.out
        have HOB := Lib.hid (fun k (e : (Value.slice a2 tx.length cp2).ownBlock = some k) => (show W5.heap.size ≤ k from (World.ownsRow.lt HOd.out k e).1))
        obtain ⟨v2, hv2⟩ : ∃ v2, Value.slice (some ⟨g2, 0, none⟩) (vs.length + 1) cap2 = v2 := ⟨_, rfl⟩
        rw [hv2] at hE hHeld ⊢
        obtain ⟨wx, hwx⟩ : ∃ wx, w7.setCell ⟨w2.heap.size, 3, none⟩ v2 = wx := ⟨_, rfl⟩
        rw [hwx] at hE hHeld ⊢
        have HE := Lib.hid hE
        have d11 := hHeld.1
        have dm0 := hHeld.2
        have cq4 : wx.cell? ⟨w2.heap.size, 4, none⟩ = some (.int .i64 (U : Int)) := by rw [← HUK.out.1]; exact cell_of_row wx _ 4 _ _ _ hE.1
        have fq4 : wx.frozen? ⟨w2.heap.size, 4, none⟩ = false := frozen_of_row wx _ 4 _ _ hE.1
        clear hE hHeld hv2 hwx HG2 HO2 HAT HBd HOd
        gi_wp2
        -- REG B1 BEGIN
        refine wpIn_region_held (S := fun W' => W'.cell? ⟨w2.heap.size + 1, 0, none⟩ = some (.pointer (some ⟨w2.heap.size, 0, none⟩)) ∧ W'.cell? ⟨m, 0, none⟩ = some (.slice (some ⟨gd, ox, none⟩) N cx)) (by kernel_rfl) (by kernel_rfl) (fun ⟨_, _, h⟩ => h) (⟨d11, dm0⟩) (fun hHeld => ?_)
        refine wpAnyH_take (i := 0) (v := ?v13) rfl (by kernel_rfl) (by kernel_rfl) (by kernel_rfl) (fun _ _ _ h => h) (Or.inl ⟨by rfl, ?y13⟩) (by assumption) ?r13
        case y13 =>
          intro w' hSw
          go_split_ands
          go_simp
          try with_reducible rfl
        try simp only [List.getElem_toArray, List.getElem_cons_zero, List.getElem_cons_succ, Act.put, List.setIfInBounds_toArray, List.set_cons_zero, List.set_cons_succ]
        refine wpAnyH_take (i := 1) (v := ?v14) rfl (by kernel_rfl) (by kernel_rfl) (by kernel_rfl) (fun _ _ _ h => h) (Or.inl ⟨by rfl, ?y14⟩) (by assumption) ?r14
        case y14 =>
          intro w' hSw
          go_split_ands
          go_simp
          try with_reducible rfl
        try simp only [List.getElem_toArray, List.getElem_cons_zero, List.getElem_cons_succ, Act.put, List.setIfInBounds_toArray, List.set_cons_zero, List.set_cons_succ]
        refine wpAnyH_take (i := 2) (v := ?v15) rfl (by kernel_rfl) (by kernel_rfl) (by kernel_rfl) (fun _ _ _ h => h) (Or.inl ⟨by rfl, ?y15⟩) (by assumption) ?r15
        case y15 =>
          intro w' hSw
          go_split_ands
          go_simp
          try with_reducible rfl
        try simp only [List.getElem_toArray, List.getElem_cons_zero, List.getElem_cons_succ, Act.put, List.setIfInBounds_toArray, List.set_cons_zero, List.set_cons_succ]
        refine wpAnyH_take (i := 4) (v := ?v16) rfl (by kernel_rfl) (by kernel_rfl) (by kernel_rfl) (fun _ _ _ h => h) (Or.inl ⟨by rfl, ?y16⟩) (by assumption) ?r16
        case y16 =>
          intro w' hSw
          go_split_ands
          go_simp
          try with_reducible rfl
        try simp only [List.getElem_toArray, List.getElem_cons_zero, List.getElem_cons_succ, Act.put, List.setIfInBounds_toArray, List.set_cons_zero, List.set_cons_succ]
        refine wpAnyH_take (i := 5) (v := ?v17) rfl (by kernel_rfl) (by kernel_rfl) (by kernel_rfl) (fun _ _ _ h => h) (Or.inl ⟨by rfl, ?y17⟩) (by assumption) ?r17
        case y17 =>
          intro w' hSw
          go_split_ands
          go_simp
          try with_reducible rfl
        try simp only [List.getElem_toArray, List.getElem_cons_zero, List.getElem_cons_succ, Act.put, List.setIfInBounds_toArray, List.set_cons_zero, List.set_cons_succ]
        refine wpAnyH_take (i := 6) (v := ?v18) rfl (by kernel_rfl) (by kernel_rfl) (by kernel_rfl) (fun _ _ _ h => h) (Or.inl ⟨by rfl, ?y18⟩) (by assumption) ?r18
        case y18 =>
          intro w' hSw
          go_split_ands
          go_simp
          try with_reducible rfl
        try simp only [List.getElem_toArray, List.getElem_cons_zero, List.getElem_cons_succ, Act.put, List.setIfInBounds_toArray, List.set_cons_zero, List.set_cons_succ]
        refine wpAnyH_ready (rs := [3, 7]) (by kernel_rfl) (by simp) ?_
        refine (AllReadyH.cons (i := 3) rfl (fun K hK => ?_) (AllReadyH.cons (i := 7) rfl (fun K hK => ?_) AllReadyH.nil))
        · go_simp
          refine hK.out _ _ (hHeld) (fun hHeld' => ?_)
          clear hHeld hK K
          have hHeld := hHeld'
          clear hHeld'
          try simp only [List.getElem_toArray, List.getElem_cons_zero, List.getElem_cons_succ, Act.put, List.setIfInBounds_toArray, List.set_cons_zero, List.set_cons_succ]
          refine wpAnyH_ready (rs := [7]) (by kernel_rfl) (by simp) ?_
          refine AllReadyH.cons (i := 7) rfl (fun K hK => ?_) AllReadyH.nil
          go_simp
          go_at_call 52
          (with_reducible refine Calls.mono (HTI.out _) ?_)
          rintro e w' ⟨rfl, rfl⟩
          refine hK.out _ _ (hHeld) (fun hHeld' => ?_)
          clear hHeld hK K
          have hHeld := hHeld'
          clear hHeld'
          try simp only [List.getElem_toArray, List.getElem_cons_zero, List.getElem_cons_succ, Act.put, List.setIfInBounds_toArray, List.set_cons_zero, List.set_cons_succ]
          refine wpAnyH_take (i := 8) (v := ?v19) rfl (by kernel_rfl) (by kernel_rfl) (by kernel_rfl) (fun _ _ _ h => h) (Or.inl ⟨by rfl, ?y19⟩) (by assumption) ?r19
          case y19 =>
            intro w' hSw
            go_split_ands
            go_simp
            try with_reducible rfl
          try simp only [List.getElem_toArray, List.getElem_cons_zero, List.getElem_cons_succ, Act.put, List.setIfInBounds_toArray, List.set_cons_zero, List.set_cons_succ]
          refine wpAnyH_take (i := 9) (v := ?v20) rfl (by kernel_rfl) (by kernel_rfl) (by kernel_rfl) (fun _ _ _ h => h) (Or.inl ⟨by rfl, ?y20⟩) (by assumption) ?r20
          case y20 =>
            intro w' hSw
            go_split_ands
            go_simp
            try with_reducible rfl
          try simp only [List.getElem_toArray, List.getElem_cons_zero, List.getElem_cons_succ, Act.put, List.setIfInBounds_toArray, List.set_cons_zero, List.set_cons_succ]
          refine wpAnyH_take (i := 10) (v := ?v21) rfl (by kernel_rfl) (by kernel_rfl) (by kernel_rfl) (fun _ _ _ h => h) (Or.inl ⟨by rfl, ?y21⟩) (by assumption) ?r21
          case y21 =>
            intro w' hSw
            go_split_ands
            go_simp
            try with_reducible rfl
          try simp only [List.getElem_toArray, List.getElem_cons_zero, List.getElem_cons_succ, Act.put, List.setIfInBounds_toArray, List.set_cons_zero, List.set_cons_succ]
          refine wpAnyH_ready (rs := [11]) (by kernel_rfl) (by simp) ?_
          refine AllReadyH.cons (i := 11) rfl (fun K hK => ?_) AllReadyH.nil
          go_simp
          refine hK.out _ _ (⟨(World.cell?_of_block (a := ⟨w2.heap.size + 1, 0, none⟩) (heap_setCell_other wx.drew ⟨w2.heap.size, 4, none⟩ _ _ (by simp))).trans hHeld.1, (World.cell?_of_block (a := ⟨m, 0, none⟩) (heap_setCell_other wx.drew ⟨w2.heap.size, 4, none⟩ _ _ hmq)).trans hHeld.2⟩) (fun hHeld' => ?_)
          clear hHeld hK K
          have hHeld := hHeld'
          clear hHeld'
          try simp only [List.getElem_toArray, List.getElem_cons_zero, List.getElem_cons_succ, Act.put, List.setIfInBounds_toArray, List.set_cons_zero, List.set_cons_succ]
          refine wpAnyH_done (by kernel_rfl) ?_ _
          have hF := HIW.out.fin HLG.out HVT.out.1 HV0.out HVT.out.2 (by have := HSZ.out; have := HF.out; omega) (by have := HF.out; omega) HE.out.1 HE.out.2.1 HE.out.2.2.1 HE.out.2.2.2 HOB.out U K HUK.out.1 HUK.out.2.1 HUK.out.2.2
          gi_wp2
          exact ⟨hF.1, hF.2.1, ts ++ [tx], ⟨tx, HFD.out, rfl⟩, hF.2.2⟩
        · go_simp
          go_at_call 52
          (with_reducible refine Calls.mono (HTI.out _) ?_)
          rintro e w' ⟨rfl, rfl⟩
          refine hK.out _ _ (hHeld) (fun hHeld' => ?_)
          clear hHeld hK K
          have hHeld := hHeld'
          clear hHeld'
          try simp only [List.getElem_toArray, List.getElem_cons_zero, List.getElem_cons_succ, Act.put, List.setIfInBounds_toArray, List.set_cons_zero, List.set_cons_succ]
          refine wpAnyH_ready (rs := [3]) (by kernel_rfl) (by simp) ?_
          refine AllReadyH.cons (i := 3) rfl (fun K hK => ?_) AllReadyH.nil
          go_simp
          refine hK.out _ _ (hHeld) (fun hHeld' => ?_)
          clear hHeld hK K
          have hHeld := hHeld'
          clear hHeld'
          try simp only [List.getElem_toArray, List.getElem_cons_zero, List.getElem_cons_succ, Act.put, List.setIfInBounds_toArray, List.set_cons_zero, List.set_cons_succ]
          refine wpAnyH_take (i := 8) (v := ?v22) rfl (by kernel_rfl) (by kernel_rfl) (by kernel_rfl) (fun _ _ _ h => h) (Or.inl ⟨by rfl, ?y22⟩) (by assumption) ?r22
          case y22 =>
            intro w' hSw
            go_split_ands
            go_simp
            try with_reducible rfl
          try simp only [List.getElem_toArray, List.getElem_cons_zero, List.getElem_cons_succ, Act.put, List.setIfInBounds_toArray, List.set_cons_zero, List.set_cons_succ]
          refine wpAnyH_take (i := 9) (v := ?v23) rfl (by kernel_rfl) (by kernel_rfl) (by kernel_rfl) (fun _ _ _ h => h) (Or.inl ⟨by rfl, ?y23⟩) (by assumption) ?r23
          case y23 =>
            intro w' hSw
            go_split_ands
            go_simp
            try with_reducible rfl
          try simp only [List.getElem_toArray, List.getElem_cons_zero, List.getElem_cons_succ, Act.put, List.setIfInBounds_toArray, List.set_cons_zero, List.set_cons_succ]
          refine wpAnyH_take (i := 10) (v := ?v24) rfl (by kernel_rfl) (by kernel_rfl) (by kernel_rfl) (fun _ _ _ h => h) (Or.inl ⟨by rfl, ?y24⟩) (by assumption) ?r24
          case y24 =>
            intro w' hSw
            go_split_ands
            go_simp
            try with_reducible rfl
          try simp only [List.getElem_toArray, List.getElem_cons_zero, List.getElem_cons_succ, Act.put, List.setIfInBounds_toArray, List.set_cons_zero, List.set_cons_succ]
          refine wpAnyH_ready (rs := [11]) (by kernel_rfl) (by simp) ?_
          refine AllReadyH.cons (i := 11) rfl (fun K hK => ?_) AllReadyH.nil
          go_simp
          refine hK.out _ _ (⟨(World.cell?_of_block (a := ⟨w2.heap.size + 1, 0, none⟩) (heap_setCell_other wx.drew ⟨w2.heap.size, 4, none⟩ _ _ (by simp))).trans hHeld.1, (World.cell?_of_block (a := ⟨m, 0, none⟩) (heap_setCell_other wx.drew ⟨w2.heap.size, 4, none⟩ _ _ hmq)).trans hHeld.2⟩) (fun hHeld' => ?_)
          clear hHeld hK K
          have hHeld := hHeld'
          clear hHeld'
          try simp only [List.getElem_toArray, List.getElem_cons_zero, List.getElem_cons_succ, Act.put, List.setIfInBounds_toArray, List.set_cons_zero, List.set_cons_succ]
          refine wpAnyH_done (by kernel_rfl) ?_ _
          have hF := HIW.out.fin HLG.out HVT.out.1 HV0.out HVT.out.2 (by have := HSZ.out; have := HF.out; omega) (by have := HF.out; omega) HE.out.1 HE.out.2.1 HE.out.2.2.1 HE.out.2.2.2 HOB.out U K HUK.out.1 HUK.out.2.1 HUK.out.2.2
          gi_wp2
          exact ⟨hF.1, hF.2.1, ts ++ [tx], ⟨tx, HFD.out, rfl⟩, hF.2.2⟩
        -- REG B1 END
      · go_simp
        go_at_call 48
        (with_reducible refine Calls.mono (clone_any _ tx _ HSX.out.drew (by rw [HNE.out]; have := HST.out.1; rw [HNE.out] at this; omega)) ?_)
        rintro e wd ⟨vd, rfl, ho, hb⟩
        obtain ⟨a2, cp2, rfl⟩ := ho.sl.len
        have HOd := Lib.hid ho
        have HBd := Lib.hid (show Below W5.heap.size W5 wd from below_undrew hb)
        clear ho hb
        refine hK.out _ _ (⟨(HBd.out.cell (p := ⟨w2.heap.size + 1, 0, none⟩) hq1w).trans hHeld.1, (HBd.out.cell (p := ⟨m, 0, none⟩) hmw).trans hHeld.2⟩) (fun hHeld' => ?_)
        clear hHeld hK K
        have hHeld := hHeld'
        clear hHeld'
        try simp only [List.getElem_toArray, List.getElem_cons_zero, List.getElem_cons_succ, Act.put, List.setIfInBounds_toArray, List.set_cons_zero, List.set_cons_succ]
        refine wpAnyH_ready (rs := [4, 8]) (by kernel_rfl) (by simp) ?_
        refine (AllReadyH.cons (i := 4) rfl (fun K hK => ?_) (AllReadyH.cons (i := 8) rfl (fun K hK => ?_) AllReadyH.nil))
        · have c3 : wd.cell? ⟨w2.heap.size, 3, none⟩ = some vt := (HBd.out.cell (p := ⟨w2.heap.size, 3, none⟩) hqw).trans HLG.out.c3
          go_simp
          refine hK.out _ _ (hHeld) (fun hHeld' => ?_)
          clear hHeld hK K
          have hHeld := hHeld'
          clear hHeld'
          try simp only [List.getElem_toArray, List.getElem_cons_zero, List.getElem_cons_succ, Act.put, List.setIfInBounds_toArray, List.set_cons_zero, List.set_cons_succ]
          refine wpAnyH_ready (rs := [8]) (by kernel_rfl) (by simp) ?_
          refine AllReadyH.cons (i := 8) rfl (fun K hK => ?_) AllReadyH.nil
          go_simp
          refine hK.out _ _ (⟨(((Below.refl wd.heap.size wd).alloc (Nat.le_refl _) _).cell (p := ⟨w2.heap.size + 1, 0, none⟩) (Nat.lt_of_lt_of_le hq1w HBd.out.size)).trans hHeld.1, (((Below.refl wd.heap.size wd).alloc (Nat.le_refl _) _).cell (p := ⟨m, 0, none⟩) (Nat.lt_of_lt_of_le hmw HBd.out.size)).trans hHeld.2⟩) (fun hHeld' => ?_)
          clear hHeld hK K
          have hHeld := hHeld'
          clear hHeld'
          try simp only [List.getElem_toArray, List.getElem_cons_zero, List.getElem_cons_succ, Act.put, List.setIfInBounds_toArray, List.set_cons_zero, List.set_cons_succ]
          refine wpAnyH_ready (rs := [9]) (by kernel_rfl) (by simp) ?_
          refine AllReadyH.cons (i := 9) rfl (fun K hK => ?_) AllReadyH.nil
          refine any_of_list (by rfl) (fun Q' hQ' => ?_)
          try simp only [List.getElem_toArray, List.getElem_cons_zero, List.getElem_cons_succ]
          refine wpList_append_l1 rfl (.tmp 64) (.tmp 68) 47 22 rfl Try.underlying47 info_sl vt vs ((HLG.out.tx.own.below (B := W5.heap.size) HBd.out (Nat.le_refl _)).alloc _) rfl wd.heap.size (.slice a2 _ cp2) rfl (cell_new1 _ _ _) rfl HVL.out ?_
          intro v2 w7 ho hg hat
          have HO2 := Lib.hid ho
          have HG2 := Lib.hid hg
          have HAT := Lib.hid hat
          obtain ⟨g2, cap2, hv2⟩ := ho.form1
          subst hv2
          clear ho hg hat
          refine hQ' _ _ (hK.out _ _ (⟨(World.cell?_of_block (a := ⟨w2.heap.size + 1, 0, none⟩) (HG2.out.block _ (by have := HBd.out.size; simp; omega) hnq)).trans hHeld.1, (World.cell?_of_block (a := ⟨m, 0, none⟩) (HG2.out.block _ (by have := HBd.out.size; simp; omega) hnm)).trans hHeld.2⟩) (fun hHeld' => ?_))
          clear hHeld hK K hQ' Q'
          have hHeld := hHeld'
          clear hHeld'
          try simp only [List.getElem_toArray, List.getElem_cons_zero, List.getElem_cons_succ, Act.put, List.setIfInBounds_toArray, List.set_cons_zero, List.set_cons_succ]
          refine wpAnyH_take (i := 10) (v := ?v9) rfl (by kernel_rfl) (by kernel_rfl) (by kernel_rfl) (fun _ _ _ h => h) (Or.inl ⟨by rfl, ?y9⟩) (by assumption) ?r9
          case y9 =>
            intro w' hSw
            go_split_ands
            go_simp
            try with_reducible rfl
          try simp only [List.getElem_toArray, List.getElem_cons_zero, List.getElem_cons_succ, Act.put, List.setIfInBounds_toArray, List.set_cons_zero, List.set_cons_succ]
          refine wpAnyH_take (i := 11) (v := ?v10) rfl (by kernel_rfl) (by kernel_rfl) (by kernel_rfl) (fun _ _ _ h => h) (Or.inl ⟨by rfl, ?y10⟩) (by assumption) ?r10
          case y10 =>
            intro w' hSw
            go_split_ands
            go_simp
            try with_reducible rfl
          try simp only [List.getElem_toArray, List.getElem_cons_zero, List.getElem_cons_succ, Act.put, List.setIfInBounds_toArray, List.set_cons_zero, List.set_cons_succ]
          refine wpAnyH_ready (rs := [12]) (by kernel_rfl) (by simp) ?_
          refine AllReadyH.cons (i := 12) rfl (fun K hK => ?_) AllReadyH.nil
          have hrq := app_row HLG.out HBd.out HG2.out
          have c3 : w7.cell? ⟨w2.heap.size, 3, none⟩ = some vt := cell_of_row w7 _ 3 _ _ _ hrq
          have f3 : w7.frozen? ⟨w2.heap.size, 3, none⟩ = false := frozen_of_row w7 _ 3 _ _ hrq
          go_simp
          refine hK.out _ _ (⟨(World.cell?_of_block (a := ⟨w2.heap.size + 1, 0, none⟩) (heap_setCell_other w7 ⟨w2.heap.size, 3, none⟩ _ _ (by simp))).trans hHeld.1, (World.cell?_of_block (a := ⟨m, 0, none⟩) (heap_setCell_other w7 ⟨w2.heap.size, 3, none⟩ _ _ hmq)).trans hHeld.2⟩) (fun hHeld' => ?_)
          clear hHeld hK K
          have hHeld := hHeld'
          clear hHeld'
          try simp only [List.getElem_toArray, List.getElem_cons_zero, List.getElem_cons_succ, Act.put, List.setIfInBounds_toArray, List.set_cons_zero, List.set_cons_succ]
          refine wpAnyH_done (by kernel_rfl) ?_ _
          have hE := app_end HLG.out (Nat.lt_of_lt_of_le HLT.out.1 hw5) (Nat.lt_of_lt_of_le HLT.out.2 hw5) (show OwnB 5 W5.heap.size wd _ tx from HOd.out) HBd.out HG2.out HO2.out HAT.out
          have HOB := Lib.hid (fun k (e : (Value.slice a2 tx.length cp2).ownBlock = some k) => (show W5.heap.size ≤ k from (World.ownsRow.lt HOd.out k e).1))
          obtain ⟨v2, hv2⟩ : ∃ v2, Value.slice (some ⟨g2, 0, none⟩) (vs.length + 1) cap2 = v2 := ⟨_, rfl⟩
          rw [hv2] at hE hHeld ⊢
          obtain ⟨wx, hwx⟩ : ∃ wx, w7.setCell ⟨w2.heap.size, 3, none⟩ v2 = wx := ⟨_, rfl⟩
          rw [hwx] at hE hHeld ⊢
          have HE := Lib.hid hE
          have d11 := hHeld.1
          have dm0 := hHeld.2
          have cq4 : wx.cell? ⟨w2.heap.size, 4, none⟩ = some (.int .i64 (U : Int)) := by rw [← HUK.out.1]; exact cell_of_row wx _ 4 _ _ _ hE.1
          have fq4 : wx.frozen? ⟨w2.heap.size, 4, none⟩ = false := frozen_of_row wx _ 4 _ _ hE.1
          clear hE hHeld hv2 hwx HG2 HO2 HAT HBd HOd
          gi_wp2
          -- REG B2 BEGIN
          refine wpIn_region_held (S := fun W' => W'.cell? ⟨w2.heap.size + 1, 0, none⟩ = some (.pointer (some ⟨w2.heap.size, 0, none⟩)) ∧ W'.cell? ⟨m, 0, none⟩ = some (.slice (some ⟨gd, ox, none⟩) N cx)) (by kernel_rfl) (by kernel_rfl) (fun ⟨_, _, h⟩ => h) (⟨d11, dm0⟩) (fun hHeld => ?_)
          refine wpAnyH_take (i := 0) (v := ?v25) rfl (by kernel_rfl) (by kernel_rfl) (by kernel_rfl) (fun _ _ _ h => h) (Or.inl ⟨by rfl, ?y25⟩) (by assumption) ?r25
          case y25 =>
            intro w' hSw
            go_split_ands
            go_simp
            try with_reducible rfl
          try simp only [List.getElem_toArray, List.getElem_cons_zero, List.getElem_cons_succ, Act.put, List.setIfInBounds_toArray, List.set_cons_zero, List.set_cons_succ]
          refine wpAnyH_take (i := 1) (v := ?v26) rfl (by kernel_rfl) (by kernel_rfl) (by kernel_rfl) (fun _ _ _ h => h) (Or.inl ⟨by rfl, ?y26⟩) (by assumption) ?r26
          case y26 =>
            intro w' hSw
            go_split_ands
            go_simp
            try with_reducible rfl
          try simp only [List.getElem_toArray, List.getElem_cons_zero, List.getElem_cons_succ, Act.put, List.setIfInBounds_toArray, List.set_cons_zero, List.set_cons_succ]
          refine wpAnyH_take (i := 2) (v := ?v27) rfl (by kernel_rfl) (by kernel_rfl) (by kernel_rfl) (fun _ _ _ h => h) (Or.inl ⟨by rfl, ?y27⟩) (by assumption) ?r27
          case y27 =>
            intro w' hSw
            go_split_ands
            go_simp
            try with_reducible rfl
          try simp only [List.getElem_toArray, List.getElem_cons_zero, List.getElem_cons_succ, Act.put, List.setIfInBounds_toArray, List.set_cons_zero, List.set_cons_succ]
          refine wpAnyH_take (i := 4) (v := ?v28) rfl (by kernel_rfl) (by kernel_rfl) (by kernel_rfl) (fun _ _ _ h => h) (Or.inl ⟨by rfl, ?y28⟩) (by assumption) ?r28
          case y28 =>
            intro w' hSw
            go_split_ands
            go_simp
            try with_reducible rfl
          try simp only [List.getElem_toArray, List.getElem_cons_zero, List.getElem_cons_succ, Act.put, List.setIfInBounds_toArray, List.set_cons_zero, List.set_cons_succ]
          refine wpAnyH_take (i := 5) (v := ?v29) rfl (by kernel_rfl) (by kernel_rfl) (by kernel_rfl) (fun _ _ _ h => h) (Or.inl ⟨by rfl, ?y29⟩) (by assumption) ?r29
          case y29 =>
            intro w' hSw
            go_split_ands
            go_simp
            try with_reducible rfl
          try simp only [List.getElem_toArray, List.getElem_cons_zero, List.getElem_cons_succ, Act.put, List.setIfInBounds_toArray, List.set_cons_zero, List.set_cons_succ]
          refine wpAnyH_take (i := 6) (v := ?v30) rfl (by kernel_rfl) (by kernel_rfl) (by kernel_rfl) (fun _ _ _ h => h) (Or.inl ⟨by rfl, ?y30⟩) (by assumption) ?r30
          case y30 =>
            intro w' hSw
            go_split_ands
            go_simp
            try with_reducible rfl
          try simp only [List.getElem_toArray, List.getElem_cons_zero, List.getElem_cons_succ, Act.put, List.setIfInBounds_toArray, List.set_cons_zero, List.set_cons_succ]
          refine wpAnyH_ready (rs := [3, 7]) (by kernel_rfl) (by simp) ?_
          refine (AllReadyH.cons (i := 3) rfl (fun K hK => ?_) (AllReadyH.cons (i := 7) rfl (fun K hK => ?_) AllReadyH.nil))
          · go_simp
            refine hK.out _ _ (hHeld) (fun hHeld' => ?_)
            clear hHeld hK K
            have hHeld := hHeld'
            clear hHeld'
            try simp only [List.getElem_toArray, List.getElem_cons_zero, List.getElem_cons_succ, Act.put, List.setIfInBounds_toArray, List.set_cons_zero, List.set_cons_succ]
            refine wpAnyH_ready (rs := [7]) (by kernel_rfl) (by simp) ?_
            refine AllReadyH.cons (i := 7) rfl (fun K hK => ?_) AllReadyH.nil
            go_simp
            go_at_call 52
            (with_reducible refine Calls.mono (HTI.out _) ?_)
            rintro e w' ⟨rfl, rfl⟩
            refine hK.out _ _ (hHeld) (fun hHeld' => ?_)
            clear hHeld hK K
            have hHeld := hHeld'
            clear hHeld'
            try simp only [List.getElem_toArray, List.getElem_cons_zero, List.getElem_cons_succ, Act.put, List.setIfInBounds_toArray, List.set_cons_zero, List.set_cons_succ]
            refine wpAnyH_take (i := 8) (v := ?v31) rfl (by kernel_rfl) (by kernel_rfl) (by kernel_rfl) (fun _ _ _ h => h) (Or.inl ⟨by rfl, ?y31⟩) (by assumption) ?r31
            case y31 =>
              intro w' hSw
              go_split_ands
              go_simp
              try with_reducible rfl
            try simp only [List.getElem_toArray, List.getElem_cons_zero, List.getElem_cons_succ, Act.put, List.setIfInBounds_toArray, List.set_cons_zero, List.set_cons_succ]
            refine wpAnyH_take (i := 9) (v := ?v32) rfl (by kernel_rfl) (by kernel_rfl) (by kernel_rfl) (fun _ _ _ h => h) (Or.inl ⟨by rfl, ?y32⟩) (by assumption) ?r32
            case y32 =>
              intro w' hSw
              go_split_ands
              go_simp
              try with_reducible rfl
            try simp only [List.getElem_toArray, List.getElem_cons_zero, List.getElem_cons_succ, Act.put, List.setIfInBounds_toArray, List.set_cons_zero, List.set_cons_succ]
            refine wpAnyH_take (i := 10) (v := ?v33) rfl (by kernel_rfl) (by kernel_rfl) (by kernel_rfl) (fun _ _ _ h => h) (Or.inl ⟨by rfl, ?y33⟩) (by assumption) ?r33
            case y33 =>
              intro w' hSw
              go_split_ands
              go_simp
              try with_reducible rfl
            try simp only [List.getElem_toArray, List.getElem_cons_zero, List.getElem_cons_succ, Act.put, List.setIfInBounds_toArray, List.set_cons_zero, List.set_cons_succ]
            refine wpAnyH_ready (rs := [11]) (by kernel_rfl) (by simp) ?_
            refine AllReadyH.cons (i := 11) rfl (fun K hK => ?_) AllReadyH.nil
            go_simp
            refine hK.out _ _ (⟨(World.cell?_of_block (a := ⟨w2.heap.size + 1, 0, none⟩) (heap_setCell_other wx.drew ⟨w2.heap.size, 4, none⟩ _ _ (by simp))).trans hHeld.1, (World.cell?_of_block (a := ⟨m, 0, none⟩) (heap_setCell_other wx.drew ⟨w2.heap.size, 4, none⟩ _ _ hmq)).trans hHeld.2⟩) (fun hHeld' => ?_)
            clear hHeld hK K
            have hHeld := hHeld'
            clear hHeld'
            try simp only [List.getElem_toArray, List.getElem_cons_zero, List.getElem_cons_succ, Act.put, List.setIfInBounds_toArray, List.set_cons_zero, List.set_cons_succ]
            refine wpAnyH_done (by kernel_rfl) ?_ _
            have hF := HIW.out.fin HLG.out HVT.out.1 HV0.out HVT.out.2 (by have := HSZ.out; have := HF.out; omega) (by have := HF.out; omega) HE.out.1 HE.out.2.1 HE.out.2.2.1 HE.out.2.2.2 HOB.out U K HUK.out.1 HUK.out.2.1 HUK.out.2.2
            gi_wp2
            exact ⟨hF.1, hF.2.1, ts ++ [tx], ⟨tx, HFD.out, rfl⟩, hF.2.2⟩
          · go_simp
            go_at_call 52
            (with_reducible refine Calls.mono (HTI.out _) ?_)
            rintro e w' ⟨rfl, rfl⟩
            refine hK.out _ _ (hHeld) (fun hHeld' => ?_)
            clear hHeld hK K
            have hHeld := hHeld'
            clear hHeld'
            try simp only [List.getElem_toArray, List.getElem_cons_zero, List.getElem_cons_succ, Act.put, List.setIfInBounds_toArray, List.set_cons_zero, List.set_cons_succ]
            refine wpAnyH_ready (rs := [3]) (by kernel_rfl) (by simp) ?_
            refine AllReadyH.cons (i := 3) rfl (fun K hK => ?_) AllReadyH.nil
            go_simp
            refine hK.out _ _ (hHeld) (fun hHeld' => ?_)
            clear hHeld hK K
            have hHeld := hHeld'
            clear hHeld'
            try simp only [List.getElem_toArray, List.getElem_cons_zero, List.getElem_cons_succ, Act.put, List.setIfInBounds_toArray, List.set_cons_zero, List.set_cons_succ]
            refine wpAnyH_take (i := 8) (v := ?v34) rfl (by kernel_rfl) (by kernel_rfl) (by kernel_rfl) (fun _ _ _ h => h) (Or.inl ⟨by rfl, ?y34⟩) (by assumption) ?r34
            case y34 =>
              intro w' hSw
              go_split_ands
              go_simp
              try with_reducible rfl
            try simp only [List.getElem_toArray, List.getElem_cons_zero, List.getElem_cons_succ, Act.put, List.setIfInBounds_toArray, List.set_cons_zero, List.set_cons_succ]
            refine wpAnyH_take (i := 9) (v := ?v35) rfl (by kernel_rfl) (by kernel_rfl) (by kernel_rfl) (fun _ _ _ h => h) (Or.inl ⟨by rfl, ?y35⟩) (by assumption) ?r35
            case y35 =>
              intro w' hSw
              go_split_ands
              go_simp
              try with_reducible rfl
            try simp only [List.getElem_toArray, List.getElem_cons_zero, List.getElem_cons_succ, Act.put, List.setIfInBounds_toArray, List.set_cons_zero, List.set_cons_succ]
            refine wpAnyH_take (i := 10) (v := ?v36) rfl (by kernel_rfl) (by kernel_rfl) (by kernel_rfl) (fun _ _ _ h => h) (Or.inl ⟨by rfl, ?y36⟩) (by assumption) ?r36
            case y36 =>
              intro w' hSw
              go_split_ands
              go_simp
              try with_reducible rfl
            try simp only [List.getElem_toArray, List.getElem_cons_zero, List.getElem_cons_succ, Act.put, List.setIfInBounds_toArray, List.set_cons_zero, List.set_cons_succ]
            refine wpAnyH_ready (rs := [11]) (by kernel_rfl) (by simp) ?_
            refine AllReadyH.cons (i := 11) rfl (fun K hK => ?_) AllReadyH.nil
            go_simp
            refine hK.out _ _ (⟨(World.cell?_of_block (a := ⟨w2.heap.size + 1, 0, none⟩) (heap_setCell_other wx.drew ⟨w2.heap.size, 4, none⟩ _ _ (by simp))).trans hHeld.1, (World.cell?_of_block (a := ⟨m, 0, none⟩) (heap_setCell_other wx.drew ⟨w2.heap.size, 4, none⟩ _ _ hmq)).trans hHeld.2⟩) (fun hHeld' => ?_)
            clear hHeld hK K
            have hHeld := hHeld'
            clear hHeld'
            try simp only [List.getElem_toArray, List.getElem_cons_zero, List.getElem_cons_succ, Act.put, List.setIfInBounds_toArray, List.set_cons_zero, List.set_cons_succ]
            refine wpAnyH_done (by kernel_rfl) ?_ _
            have hF := HIW.out.fin HLG.out HVT.out.1 HV0.out HVT.out.2 (by have := HSZ.out; have := HF.out; omega) (by have := HF.out; omega) HE.out.1 HE.out.2.1 HE.out.2.2.1 HE.out.2.2.2 HOB.out U K HUK.out.1 HUK.out.2.1 HUK.out.2.2
            gi_wp2
            exact ⟨hF.1, hF.2.1, ts ++ [tx], ⟨tx, HFD.out, rfl⟩, hF.2.2⟩
          -- REG B2 END
        · go_simp
          refine hK.out _ _ (⟨(((Below.refl wd.heap.size wd).alloc (Nat.le_refl _) _).cell (p := ⟨w2.heap.size + 1, 0, none⟩) (Nat.lt_of_lt_of_le hq1w HBd.out.size)).trans hHeld.1, (((Below.refl wd.heap.size wd).alloc (Nat.le_refl _) _).cell (p := ⟨m, 0, none⟩) (Nat.lt_of_lt_of_le hmw HBd.out.size)).trans hHeld.2⟩) (fun hHeld' => ?_)
          clear hHeld hK K
          have hHeld := hHeld'
          clear hHeld'
          try simp only [List.getElem_toArray, List.getElem_cons_zero, List.getElem_cons_succ, Act.put, List.setIfInBounds_toArray, List.set_cons_zero, List.set_cons_succ]
          refine wpAnyH_ready (rs := [4]) (by kernel_rfl) (by simp) ?_
          refine AllReadyH.cons (i := 4) rfl (fun K hK => ?_) AllReadyH.nil
          have c3 : (wd.alloc (.cells #[.slice a2 tx.length cp2] 22)).cell? ⟨w2.heap.size, 3, none⟩ = some vt := (((Below.refl wd.heap.size wd).alloc (Nat.le_refl _) _).cell (p := ⟨w2.heap.size, 3, none⟩) (Nat.lt_of_lt_of_le hqw HBd.out.size)).trans ((HBd.out.cell (p := ⟨w2.heap.size, 3, none⟩) hqw).trans HLG.out.c3)
          go_simp
          refine hK.out _ _ (hHeld) (fun hHeld' => ?_)
          clear hHeld hK K
          have hHeld := hHeld'
          clear hHeld'
          try simp only [List.getElem_toArray, List.getElem_cons_zero, List.getElem_cons_succ, Act.put, List.setIfInBounds_toArray, List.set_cons_zero, List.set_cons_succ]
          refine wpAnyH_ready (rs := [9]) (by kernel_rfl) (by simp) ?_
          refine AllReadyH.cons (i := 9) rfl (fun K hK => ?_) AllReadyH.nil
          refine any_of_list (by rfl) (fun Q' hQ' => ?_)
          try simp only [List.getElem_toArray, List.getElem_cons_zero, List.getElem_cons_succ]
          refine wpList_append_l1 rfl (.tmp 64) (.tmp 68) 47 22 rfl Try.underlying47 info_sl vt vs ((HLG.out.tx.own.below (B := W5.heap.size) HBd.out (Nat.le_refl _)).alloc _) rfl wd.heap.size (.slice a2 _ cp2) rfl (cell_new1 _ _ _) rfl HVL.out ?_
          intro v2 w7 ho hg hat
          have HO2 := Lib.hid ho
          have HG2 := Lib.hid hg
          have HAT := Lib.hid hat
          obtain ⟨g2, cap2, hv2⟩ := ho.form1
          subst hv2
          clear ho hg hat
          refine hQ' _ _ (hK.out _ _ (⟨(World.cell?_of_block (a := ⟨w2.heap.size + 1, 0, none⟩) (HG2.out.block _ (by have := HBd.out.size; simp; omega) hnq)).trans hHeld.1, (World.cell?_of_block (a := ⟨m, 0, none⟩) (HG2.out.block _ (by have := HBd.out.size; simp; omega) hnm)).trans hHeld.2⟩) (fun hHeld' => ?_))
          clear hHeld hK K hQ' Q'
          have hHeld := hHeld'
          clear hHeld'
          try simp only [List.getElem_toArray, List.getElem_cons_zero, List.getElem_cons_succ, Act.put, List.setIfInBounds_toArray, List.set_cons_zero, List.set_cons_succ]
          refine wpAnyH_take (i := 10) (v := ?v11) rfl (by kernel_rfl) (by kernel_rfl) (by kernel_rfl) (fun _ _ _ h => h) (Or.inl ⟨by rfl, ?y11⟩) (by assumption) ?r11
          case y11 =>
            intro w' hSw
            go_split_ands
            go_simp
            try with_reducible rfl
          try simp only [List.getElem_toArray, List.getElem_cons_zero, List.getElem_cons_succ, Act.put, List.setIfInBounds_toArray, List.set_cons_zero, List.set_cons_succ]
          refine wpAnyH_take (i := 11) (v := ?v12) rfl (by kernel_rfl) (by kernel_rfl) (by kernel_rfl) (fun _ _ _ h => h) (Or.inl ⟨by rfl, ?y12⟩) (by assumption) ?r12
          case y12 =>
            intro w' hSw
            go_split_ands
            go_simp
            try with_reducible rfl
          try simp only [List.getElem_toArray, List.getElem_cons_zero, List.getElem_cons_succ, Act.put, List.setIfInBounds_toArray, List.set_cons_zero, List.set_cons_succ]
          refine wpAnyH_ready (rs := [12]) (by kernel_rfl) (by simp) ?_
          refine AllReadyH.cons (i := 12) rfl (fun K hK => ?_) AllReadyH.nil
          have hrq := app_row HLG.out HBd.out HG2.out
          have c3 : w7.cell? ⟨w2.heap.size, 3, none⟩ = some vt := cell_of_row w7 _ 3 _ _ _ hrq
          have f3 : w7.frozen? ⟨w2.heap.size, 3, none⟩ = false := frozen_of_row w7 _ 3 _ _ hrq
          go_simp
          refine hK.out _ _ (⟨(World.cell?_of_block (a := ⟨w2.heap.size + 1, 0, none⟩) (heap_setCell_other w7 ⟨w2.heap.size, 3, none⟩ _ _ (by simp))).trans hHeld.1, (World.cell?_of_block (a := ⟨m, 0, none⟩) (heap_setCell_other w7 ⟨w2.heap.size, 3, none⟩ _ _ hmq)).trans hHeld.2⟩) (fun hHeld' => ?_)
          clear hHeld hK K
          have hHeld := hHeld'
          clear hHeld'
          try simp only [List.getElem_toArray, List.getElem_cons_zero, List.getElem_cons_succ, Act.put, List.setIfInBounds_toArray, List.set_cons_zero, List.set_cons_succ]
          refine wpAnyH_done (by kernel_rfl) ?_ _
          have hE := app_end HLG.out (Nat.lt_of_lt_of_le HLT.out.1 hw5) (Nat.lt_of_lt_of_le HLT.out.2 hw5) (show OwnB 5 W5.heap.size wd _ tx from HOd.out) HBd.out HG2.out HO2.out HAT.out
          have HOB := Lib.hid (fun k (e : (Value.slice a2 tx.length cp2).ownBlock = some k) => (show W5.heap.size ≤ k from (World.ownsRow.lt HOd.out k e).1))
          obtain ⟨v2, hv2⟩ : ∃ v2, Value.slice (some ⟨g2, 0, none⟩) (vs.length + 1) cap2 = v2 := ⟨_, rfl⟩
          rw [hv2] at hE hHeld ⊢
          obtain ⟨wx, hwx⟩ : ∃ wx, w7.setCell ⟨w2.heap.size, 3, none⟩ v2 = wx := ⟨_, rfl⟩
          rw [hwx] at hE hHeld ⊢
          have HE := Lib.hid hE
          have d11 := hHeld.1
          have dm0 := hHeld.2
          have cq4 : wx.cell? ⟨w2.heap.size, 4, none⟩ = some (.int .i64 (U : Int)) := by rw [← HUK.out.1]; exact cell_of_row wx _ 4 _ _ _ hE.1
          have fq4 : wx.frozen? ⟨w2.heap.size, 4, none⟩ = false := frozen_of_row wx _ 4 _ _ hE.1
          clear hE hHeld hv2 hwx HG2 HO2 HAT HBd HOd
          gi_wp2
          -- REG B3 BEGIN
          refine wpIn_region_held (S := fun W' => W'.cell? ⟨w2.heap.size + 1, 0, none⟩ = some (.pointer (some ⟨w2.heap.size, 0, none⟩)) ∧ W'.cell? ⟨m, 0, none⟩ = some (.slice (some ⟨gd, ox, none⟩) N cx)) (by kernel_rfl) (by kernel_rfl) (fun ⟨_, _, h⟩ => h) (⟨d11, dm0⟩) (fun hHeld => ?_)
          refine wpAnyH_take (i := 0) (v := ?v37) rfl (by kernel_rfl) (by kernel_rfl) (by kernel_rfl) (fun _ _ _ h => h) (Or.inl ⟨by rfl, ?y37⟩) (by assumption) ?r37
          case y37 =>
            intro w' hSw
            go_split_ands
            go_simp
            try with_reducible rfl
          try simp only [List.getElem_toArray, List.getElem_cons_zero, List.getElem_cons_succ, Act.put, List.setIfInBounds_toArray, List.set_cons_zero, List.set_cons_succ]
          refine wpAnyH_take (i := 1) (v := ?v38) rfl (by kernel_rfl) (by kernel_rfl) (by kernel_rfl) (fun _ _ _ h => h) (Or.inl ⟨by rfl, ?y38⟩) (by assumption) ?r38
          case y38 =>
            intro w' hSw
            go_split_ands
            go_simp
            try with_reducible rfl
          try simp only [List.getElem_toArray, List.getElem_cons_zero, List.getElem_cons_succ, Act.put, List.setIfInBounds_toArray, List.set_cons_zero, List.set_cons_succ]
          refine wpAnyH_take (i := 2) (v := ?v39) rfl (by kernel_rfl) (by kernel_rfl) (by kernel_rfl) (fun _ _ _ h => h) (Or.inl ⟨by rfl, ?y39⟩) (by assumption) ?r39
          case y39 =>
            intro w' hSw
            go_split_ands
            go_simp
            try with_reducible rfl
          try simp only [List.getElem_toArray, List.getElem_cons_zero, List.getElem_cons_succ, Act.put, List.setIfInBounds_toArray, List.set_cons_zero, List.set_cons_succ]
          refine wpAnyH_take (i := 4) (v := ?v40) rfl (by kernel_rfl) (by kernel_rfl) (by kernel_rfl) (fun _ _ _ h => h) (Or.inl ⟨by rfl, ?y40⟩) (by assumption) ?r40
          case y40 =>
            intro w' hSw
            go_split_ands
            go_simp
            try with_reducible rfl
          try simp only [List.getElem_toArray, List.getElem_cons_zero, List.getElem_cons_succ, Act.put, List.setIfInBounds_toArray, List.set_cons_zero, List.set_cons_succ]
          refine wpAnyH_take (i := 5) (v := ?v41) rfl (by kernel_rfl) (by kernel_rfl) (by kernel_rfl) (fun _ _ _ h => h) (Or.inl ⟨by rfl, ?y41⟩) (by assumption) ?r41
          case y41 =>
            intro w' hSw
            go_split_ands
            go_simp
            try with_reducible rfl
          try simp only [List.getElem_toArray, List.getElem_cons_zero, List.getElem_cons_succ, Act.put, List.setIfInBounds_toArray, List.set_cons_zero, List.set_cons_succ]
          refine wpAnyH_take (i := 6) (v := ?v42) rfl (by kernel_rfl) (by kernel_rfl) (by kernel_rfl) (fun _ _ _ h => h) (Or.inl ⟨by rfl, ?y42⟩) (by assumption) ?r42
          case y42 =>
            intro w' hSw
            go_split_ands
            go_simp
            try with_reducible rfl
          try simp only [List.getElem_toArray, List.getElem_cons_zero, List.getElem_cons_succ, Act.put, List.setIfInBounds_toArray, List.set_cons_zero, List.set_cons_succ]
          refine wpAnyH_ready (rs := [3, 7]) (by kernel_rfl) (by simp) ?_
          refine (AllReadyH.cons (i := 3) rfl (fun K hK => ?_) (AllReadyH.cons (i := 7) rfl (fun K hK => ?_) AllReadyH.nil))
          · go_simp
            refine hK.out _ _ (hHeld) (fun hHeld' => ?_)
            clear hHeld hK K
            have hHeld := hHeld'
            clear hHeld'
            try simp only [List.getElem_toArray, List.getElem_cons_zero, List.getElem_cons_succ, Act.put, List.setIfInBounds_toArray, List.set_cons_zero, List.set_cons_succ]
            refine wpAnyH_ready (rs := [7]) (by kernel_rfl) (by simp) ?_
            refine AllReadyH.cons (i := 7) rfl (fun K hK => ?_) AllReadyH.nil
            go_simp
            go_at_call 52
            (with_reducible refine Calls.mono (HTI.out _) ?_)
            rintro e w' ⟨rfl, rfl⟩
            refine hK.out _ _ (hHeld) (fun hHeld' => ?_)
            clear hHeld hK K
            have hHeld := hHeld'
            clear hHeld'
            try simp only [List.getElem_toArray, List.getElem_cons_zero, List.getElem_cons_succ, Act.put, List.setIfInBounds_toArray, List.set_cons_zero, List.set_cons_succ]
            refine wpAnyH_take (i := 8) (v := ?v43) rfl (by kernel_rfl) (by kernel_rfl) (by kernel_rfl) (fun _ _ _ h => h) (Or.inl ⟨by rfl, ?y43⟩) (by assumption) ?r43
            case y43 =>
              intro w' hSw
              go_split_ands
              go_simp
              try with_reducible rfl
            try simp only [List.getElem_toArray, List.getElem_cons_zero, List.getElem_cons_succ, Act.put, List.setIfInBounds_toArray, List.set_cons_zero, List.set_cons_succ]
            refine wpAnyH_take (i := 9) (v := ?v44) rfl (by kernel_rfl) (by kernel_rfl) (by kernel_rfl) (fun _ _ _ h => h) (Or.inl ⟨by rfl, ?y44⟩) (by assumption) ?r44
            case y44 =>
              intro w' hSw
              go_split_ands
              go_simp
              try with_reducible rfl
            try simp only [List.getElem_toArray, List.getElem_cons_zero, List.getElem_cons_succ, Act.put, List.setIfInBounds_toArray, List.set_cons_zero, List.set_cons_succ]
            refine wpAnyH_take (i := 10) (v := ?v45) rfl (by kernel_rfl) (by kernel_rfl) (by kernel_rfl) (fun _ _ _ h => h) (Or.inl ⟨by rfl, ?y45⟩) (by assumption) ?r45
            case y45 =>
              intro w' hSw
              go_split_ands
              go_simp
              try with_reducible rfl
            try simp only [List.getElem_toArray, List.getElem_cons_zero, List.getElem_cons_succ, Act.put, List.setIfInBounds_toArray, List.set_cons_zero, List.set_cons_succ]
            refine wpAnyH_ready (rs := [11]) (by kernel_rfl) (by simp) ?_
            refine AllReadyH.cons (i := 11) rfl (fun K hK => ?_) AllReadyH.nil
            go_simp
            refine hK.out _ _ (⟨(World.cell?_of_block (a := ⟨w2.heap.size + 1, 0, none⟩) (heap_setCell_other wx.drew ⟨w2.heap.size, 4, none⟩ _ _ (by simp))).trans hHeld.1, (World.cell?_of_block (a := ⟨m, 0, none⟩) (heap_setCell_other wx.drew ⟨w2.heap.size, 4, none⟩ _ _ hmq)).trans hHeld.2⟩) (fun hHeld' => ?_)
            clear hHeld hK K
            have hHeld := hHeld'
            clear hHeld'
            try simp only [List.getElem_toArray, List.getElem_cons_zero, List.getElem_cons_succ, Act.put, List.setIfInBounds_toArray, List.set_cons_zero, List.set_cons_succ]
            refine wpAnyH_done (by kernel_rfl) ?_ _
            have hF := HIW.out.fin HLG.out HVT.out.1 HV0.out HVT.out.2 (by have := HSZ.out; have := HF.out; omega) (by have := HF.out; omega) HE.out.1 HE.out.2.1 HE.out.2.2.1 HE.out.2.2.2 HOB.out U K HUK.out.1 HUK.out.2.1 HUK.out.2.2
            gi_wp2
            exact ⟨hF.1, hF.2.1, ts ++ [tx], ⟨tx, HFD.out, rfl⟩, hF.2.2⟩
          · go_simp
            go_at_call 52
            (with_reducible refine Calls.mono (HTI.out _) ?_)
            rintro e w' ⟨rfl, rfl⟩
            refine hK.out _ _ (hHeld) (fun hHeld' => ?_)
            clear hHeld hK K
            have hHeld := hHeld'
            clear hHeld'
            try simp only [List.getElem_toArray, List.getElem_cons_zero, List.getElem_cons_succ, Act.put, List.setIfInBounds_toArray, List.set_cons_zero, List.set_cons_succ]
            refine wpAnyH_ready (rs := [3]) (by kernel_rfl) (by simp) ?_
            refine AllReadyH.cons (i := 3) rfl (fun K hK => ?_) AllReadyH.nil
            go_simp
            refine hK.out _ _ (hHeld) (fun hHeld' => ?_)
            clear hHeld hK K
            have hHeld := hHeld'
            clear hHeld'
            try simp only [List.getElem_toArray, List.getElem_cons_zero, List.getElem_cons_succ, Act.put, List.setIfInBounds_toArray, List.set_cons_zero, List.set_cons_succ]
            refine wpAnyH_take (i := 8) (v := ?v46) rfl (by kernel_rfl) (by kernel_rfl) (by kernel_rfl) (fun _ _ _ h => h) (Or.inl ⟨by rfl, ?y46⟩) (by assumption) ?r46
            case y46 =>
              intro w' hSw
              go_split_ands
              go_simp
              try with_reducible rfl
            try simp only [List.getElem_toArray, List.getElem_cons_zero, List.getElem_cons_succ, Act.put, List.setIfInBounds_toArray, List.set_cons_zero, List.set_cons_succ]
            refine wpAnyH_take (i := 9) (v := ?v47) rfl (by kernel_rfl) (by kernel_rfl) (by kernel_rfl) (fun _ _ _ h => h) (Or.inl ⟨by rfl, ?y47⟩) (by assumption) ?r47
            case y47 =>
              intro w' hSw
              go_split_ands
              go_simp
              try with_reducible rfl
            try simp only [List.getElem_toArray, List.getElem_cons_zero, List.getElem_cons_succ, Act.put, List.setIfInBounds_toArray, List.set_cons_zero, List.set_cons_succ]
            refine wpAnyH_take (i := 10) (v := ?v48) rfl (by kernel_rfl) (by kernel_rfl) (by kernel_rfl) (fun _ _ _ h => h) (Or.inl ⟨by rfl, ?y48⟩) (by assumption) ?r48
            case y48 =>
              intro w' hSw
              go_split_ands
              go_simp
              try with_reducible rfl
            try simp only [List.getElem_toArray, List.getElem_cons_zero, List.getElem_cons_succ, Act.put, List.setIfInBounds_toArray, List.set_cons_zero, List.set_cons_succ]
            refine wpAnyH_ready (rs := [11]) (by kernel_rfl) (by simp) ?_
            refine AllReadyH.cons (i := 11) rfl (fun K hK => ?_) AllReadyH.nil
            go_simp
            refine hK.out _ _ (⟨(World.cell?_of_block (a := ⟨w2.heap.size + 1, 0, none⟩) (heap_setCell_other wx.drew ⟨w2.heap.size, 4, none⟩ _ _ (by simp))).trans hHeld.1, (World.cell?_of_block (a := ⟨m, 0, none⟩) (heap_setCell_other wx.drew ⟨w2.heap.size, 4, none⟩ _ _ hmq)).trans hHeld.2⟩) (fun hHeld' => ?_)
            clear hHeld hK K
            have hHeld := hHeld'
            clear hHeld'
            try simp only [List.getElem_toArray, List.getElem_cons_zero, List.getElem_cons_succ, Act.put, List.setIfInBounds_toArray, List.set_cons_zero, List.set_cons_succ]
            refine wpAnyH_done (by kernel_rfl) ?_ _
            have hF := HIW.out.fin HLG.out HVT.out.1 HV0.out HVT.out.2 (by have := HSZ.out; have := HF.out; omega) (by have := HF.out; omega) HE.out.1 HE.out.2.1 HE.out.2.2.1 HE.out.2.2.2 HOB.out U K HUK.out.1 HUK.out.2.1 HUK.out.2.2
            gi_wp2
            exact ⟨hF.1, hF.2.1, ts ++ [tx], ⟨tx, HFD.out, rfl⟩, hF.2.2⟩
          -- REG B3 END
      -- REG A END
  case done =>
    rintro ts W4 hp hI hK
    clear HRR HALL HRD HS H67 hb4 hz4 hr4 hsl hb2 hsl4 hI0 hq hq1 hc6 hc7 hwl hB42
    have c6 : W4.cell? ⟨w.heap.size, 0, none⟩ = some (.pointer none) := cell_of_row _ _ 0 _ _ _ hI.ret0
    have c7 : W4.cell? ⟨w.heap.size + 1, 0, none⟩ = some (.int .i64 0) := cell_of_row _ _ 0 _ _ _ hI.ret1
    have c11 : W4.cell? ⟨w2.heap.size + 1, 0, none⟩ = some (.pointer (some ⟨w2.heap.size, 0, none⟩)) := cell_of_row _ _ 0 _ _ _ hI.ptr
    have f6 : W4.frozen? ⟨w.heap.size, 0, none⟩ = false := frozen_of_row _ _ 0 _ _ hI.ret0
    have f7 : W4.frozen? ⟨w.heap.size + 1, 0, none⟩ = false := frozen_of_row _ _ 0 _ _ hI.ret1
    have HI := Lib.hid hI
    have HK := Lib.hid hK
    have HP := Lib.hid hp
    clear hI hK hp
    gi_wp2
    obtain ⟨vt, vs, hl, hv, hvx⟩ := HI.out.out (by have := HF.out; omega) (by have := HF.out; omega) (.pointer (some ⟨w2.heap.size, 0, none⟩)) (.int .i64 0)
    obtain ⟨r1, r2, r3⟩ := two_out HI.out.below HI.out.ret0 HI.out.ret1 (Nat.le_refl _) (.pointer (some ⟨w2.heap.size, 0, none⟩)) (.int .i64 0)
    have hf := HF.out
    have hK' : ((W4.setCell ⟨w.heap.size, 0, none⟩ (.pointer (some ⟨w2.heap.size, 0, none⟩))).setCell ⟨w.heap.size + 1, 0, none⟩ (.int .i64 0)).heap[w4.heap.size]? = some (.deferred (some [])) :=
      (heap_setCell_other _ ⟨w.heap.size + 1, 0, none⟩ _ _ (by simp; omega)).trans ((heap_setCell_other _ ⟨w.heap.size, 0, none⟩ _ _ (by simp; omega)).trans HK.out)
    generalize (W4.setCell ⟨w.heap.size, 0, none⟩ (.pointer (some ⟨w2.heap.size, 0, none⟩))).setCell ⟨w.heap.size + 1, 0, none⟩ (.int .i64 0) = X at *
    have hgp := grownBy_putObj' X w4.heap.size (.deferred none)
    have hrw : ∀ r, some w4.heap.size = some r → ∃ o : Obj, X.heap[r]? = some o ∧ o.isCells = false := fun r e => by cases e; exact ⟨_, hK', rfl⟩
    have s1 := cell_kept r1 hgp hrw
    have s2 := cell_kept r2 hgp hrw
    refine ⟨by simp, .inl ⟨_, _, rfl, run_takeDeferred hK', ?_⟩⟩
    refine ⟨.tuple #[.pointer (some ⟨w2.heap.size, 0, none⟩), .int .i64 0], by simp [results, Try.results31, go_sem, s1, s2], r3.grown hgp r3.size (fun k e => by cases e; omega), ?_⟩
    rw [← HR.out, HP.out]
    exact ⟨rfl, w2.heap.size, vt, vs, rfl, hl.nonCells hgp hrw, by omega, fun k e => by have := hv k e; omega, fun i k e => by have := hvx i k e; omega⟩
  case stop =>
    rintro ts W4 hp hX hK
    clear HRR HALL HRD HS H67 hb4 hz4 hr4 hsl hb2 hsl4 hI0 hq hq1 hc6 hc7 hwl hB42
    have hgp := grownBy_putObj' W4 w4.heap.size (.deferred none)
    have hrw : ∀ r, some w4.heap.size = some r → ∃ o : Obj, W4.heap[r]? = some o ∧ o.isCells = false := fun r e => by cases e; exact ⟨_, hK, rfl⟩
    have s1 := cell_kept (cell_of_row _ _ 0 _ _ _ hX.ret0 : W4.cell? ⟨w.heap.size, 0, none⟩ = some (.pointer none)) hgp hrw
    have s2 := cell_kept (cell_of_row _ _ 0 _ _ _ hX.ret1 : W4.cell? ⟨w.heap.size + 1, 0, none⟩ = some (.int .i64 9)) hgp hrw
    have hB := hX.below.grown hgp hX.below.size (fun k e => by cases e; have := HF.out; omega)
    have HE := Lib.hid (And.intro s1 (And.intro s2 (And.intro hB (And.intro hp hK))))
    clear hgp hrw s1 s2 hB hp hK hX
    gi_wp2
    obtain ⟨s1, s2, hB, hp, hK⟩ := HE.out
    refine ⟨by simp, .inl ⟨_, _, rfl, run_takeDeferred hK, ?_⟩⟩
    refine ⟨.tuple #[.pointer none, .int .i64 9], by simp [results, Try.results31, go_sem, s1, s2], hB, ?_⟩
    rw [← HR.out, hp]
    rfl

/-- Open, on a disk. -/
theorem slo_open {w : World} {p g : Nat} {d : Dk.D} (hD : DiskAt w p g d) (fr n : Int) (h0 : -9223372036854775808 ≤ n) (h1 : n ≤ 9223372036854775807) :
    Calls Try.prog 31 #[.pointer (some ⟨p, 0, none⟩), .int .i64 fr, .int .i64 n] w (OpenR w p g (Slo.open_ d fr n)) := by
  by_cases hbad : fr < 0 ∨ n < 1 ∨ ((d.b.length / 128 : Nat) : Int) < n ∨ ((d.b.length / 128 : Nat) : Int) - n < fr
  · have e : Slo.open_ d fr n = (none, 2) := by unfold Slo.open_; rw [if_pos hbad]
    rw [e]
    exact open_arg hD fr n h0 h1 hbad
  · by_cases hoff : d.off = true
    · have e : Slo.open_ d fr n = (none, 12) := by unfold Slo.open_; rw [if_neg hbad, if_pos hoff]
      rw [e]
      exact open_off hD fr n (by omega) (by omega) (by omega) hoff
    · obtain ⟨f, rfl⟩ : ∃ f : Nat, fr = f := ⟨fr.toNat, by omega⟩
      obtain ⟨m, rfl⟩ : ∃ m : Nat, n = m := ⟨n.toNat, by omega⟩
      have e : Slo.open_ d (f : Int) (m : Int) = if (Slo.parse m (Slo.region d f m)).2 = true then (some ⟨f, m, (Slo.parse m (Slo.region d f m)).1, Slo.used (Slo.parse m (Slo.region d f m)).1, false⟩, 0) else (none, 9) := by
        unfold Slo.open_
        rw [if_neg hbad, if_neg hoff]
        simp only [Int.toNat_natCast]
      rw [e]
      exact open_go hD f m (by omega) (by omega) (by simpa using hoff)
end Go.Proofs.Ytdnjjemdnlegdaa
