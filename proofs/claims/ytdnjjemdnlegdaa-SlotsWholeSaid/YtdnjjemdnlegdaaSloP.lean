/-
  The law SlotsWhole: whenever the power goes, what was told OK is there.
-/
import Derived.Test.YtdnjjemdnlegdaaSloO
namespace Go.Proofs.Ytdnjjemdnlegdaa
set_option linter.unusedVariables false
set_option linter.unusedSimpArgs false
open Go Go.RowKit

theorem good_short {d : Dk.D} {l : Slo.L} {want : List (List (BitVec 8))} {k : Nat} (h : Slo.Good d l want k) : want.length ≤ 5 * k := by
  have h1 := h.cap
  have h2 := Slo.used_ge want
  rw [h.is.used_eq, h.txt] at h1
  omega
set_option maxRecDepth 100000 in
set_option maxHeartbeats 8000000 in
theorem law_slotsWhole {w : World} (v0 : Value) (ts : List (List (BitVec 8))) (h0 : SlS w v0 ts) (a1 : Option Addr) (n1 cap1 : Nat) (h1 : Acts9 w a1 n1) (hc1 : n1 ≤ cap1) (hm1 : cap1 ≤ maxLen) :
    Calls Try.prog 6 #[v0, .slice a1 n1 cap1] w fun e w' => e = .returned (.bool true) ∧ Below w.heap.size w w' := by
  obtain ⟨a0, cap0, rfl, h01, h02, h03⟩ := h0
  obtain ⟨n0, hn0⟩ : ∃ n, ts.length = n := ⟨_, rfl⟩
  rw [hn0] at h01 h03 ⊢
  have HT := Lib.hid h03
  have H1 := Lib.hid h1
  have HAW := Lib.hid (fun w => awake9_any w)
  have HGV := Lib.hid (given_any 120 (by omega) (by omega) w)
  have hb0 : (n0 : Int) ≤ 9223372036854775807 := by unfold maxLen at h02; omega
  have hb1 : (n1 : Int) ≤ 9223372036854775807 := by unfold maxLen at hm1; omega
  clear h03 h1
  have hbig : 20 < n0 ∨ (¬ 20 < n0 ∧ 20 < n1) ∨ (¬ 20 < n0 ∧ ¬ 20 < n1) := by omega
  rcases hbig with hb | ⟨hb, hb'⟩ | ⟨hb, hb'⟩
  · go_enter Try.func6, Try.ntmps6
    go_wp2_with (go_at_call 28; refine (HAW.out _).mono ?_; rintro e w' ⟨rfl, hb⟩; have HB := Lib.hid hb; clear hb)
    go_ret
    exact ⟨rfl, HB.out⟩
  · go_enter Try.func6, Try.ntmps6
    go_wp2_with (go_at_call 28; refine (HAW.out _).mono ?_; rintro e w' ⟨rfl, hb⟩; have HB := Lib.hid hb; clear hb)
    go_ret
    exact ⟨rfl, HB.out⟩
  · go_enter Try.func6, Try.ntmps6
    go_wp2_with (go_at_call 29; refine HGV.out.mono ?_; rintro e w1 ⟨p, g, q0, rfl, hd, hb⟩; have HD := Lib.hid hd; have HB := Lib.hid hb; clear hd hb)
    clear HGV
    have HS0 := Lib.hid (show WS w w1 p g q0 (.slice none 0 0) (Dk.fresh 120) ⟨0, 120, [], 0, false⟩ [] [] 0 from
      ⟨HD.out.others fun k _ hk => by rcases hk with h | h; exact h; simp [Value.ownBlock] at h, Slo.Good.fresh, Want.nil _ _, HB.out⟩)
    clear HD HB
    go_loopw [6, 7, 8] (fun s6 s7 s8 wr => ∃ (k q : Nat) (d : Dk.D) (l : Slo.L) (want : List (List (BitVec 8))) (us : List Value), k ≤ n0 ∧ s8 = .int .i64 k ∧ s6 = .pointer (some ⟨q, 0, none⟩) ∧ Hid (WS w wr p g q s7 d l want us k)) (fun _ _ s8 _ => n0 - (intOf s8).toNat)
    case atStart => exact ⟨0, q0, _, _, [], [], by omega, rfl, rfl, HS0⟩
    case round =>
      clear HS0
      obtain ⟨k, q, d, l, want, us, hk, rfl, rfl, HS⟩ := hrel
      obtain ⟨a7, c7, rfl, hl7, hm7⟩ := HS.out.want.own.shape
      obtain ⟨M, hM⟩ : ∃ M, us.length = M := ⟨_, rfl⟩
      have hMk : M ≤ 5 * k := by rw [← hM, HS.out.want.len]; exact good_short HS.out.good
      rw [hM] at hl7 HS ⊢
      have HM := Lib.hid hM
      clear hM
      by_cases hlt : k < n0
      · obtain ⟨b, off, u, rfl, hbl, hcu, hsu⟩ := HT.out k hlt
        obtain ⟨t, ht⟩ : ∃ t, ts.getD k [] = t := ⟨_, rfl⟩
        rw [ht] at hsu
        have HSU := Lib.hid hsu
        obtain ⟨au, cu, rfl⟩ := hsu.len
        obtain ⟨m, hm⟩ : ∃ m, t.length = m := ⟨_, rfl⟩
        rw [hm] at HSU hcu
        have HTL := Lib.hid hm
        have HCU := Lib.hid (fun W (hW : Below w.heap.size w W) => (hW.cell (p := ⟨b, off + k, none⟩) hbl).trans hcu)
        have ck := HCU.out wr HS.out.below
        clear hsu hcu ht hm
        by_cases h600 : 600 < m
        · go_wp2_with (go_at_call 28; refine (HAW.out _).mono ?_; rintro e w' ⟨rfl, hb⟩; have HB := Lib.hid hb; clear hb)
          go_ret
          exact ⟨rfl, HS.out.below.trans (HB.out.mono HS.out.below.size)⟩
        · have hcut : (¬ k < n1 ∨ ∃ b1 off1, a1 = some ⟨b1, off1, none⟩ ∧ k < n1 ∧ ∃ wh : Int, wr.cell? ⟨b1, off1 + k * 20 + 1, none⟩ = some (.int .i64 wh) ∧ wh < 0) ∨
              (k < n1 ∧ ∃ b1 off1, a1 = some ⟨b1, off1, none⟩ ∧ ∃ (wh : Int) (mask : List (BitVec 8)), 0 ≤ wh ∧ wh ≤ 9223372036854775807 ∧ mask.length = 16 ∧ b1 < w.heap.size ∧ w.cell? ⟨b1, off1 + k * 20 + 1, none⟩ = some (.int .i64 wh) ∧ w.rangeAt b1 (off1 + k * 20 + 3) (bcells mask)) := by
            by_cases hk1 : k < n1
            · obtain ⟨b1, off1, e1, hb1l, hx⟩ := H1.out (by omega)
              obtain ⟨wt, wh, at_, mask, v, xs, hra, hs, hml, r1, r2, r3⟩ := hx k hk1
              have cwh : w.cell? ⟨b1, off1 + k * 20 + 1, none⟩ = some (.int .i64 wh) := hra 1 _ rfl
              by_cases hneg : wh < 0
              · exact .inl (.inr ⟨b1, off1, e1, hk1, wh, (HS.out.below.cell (p := ⟨b1, off1 + k * 20 + 1, none⟩) hb1l).trans cwh, hneg⟩)
              · refine .inr ⟨hk1, b1, off1, e1, wh, mask, by omega, r2.2, hml, hb1l, cwh, fun j x hj => ?_⟩
                have hjl : j < mask.length := by have := (List.getElem?_eq_some_iff.1 hj).1; rwa [bcells_length] at this
                have := hra (3 + j) x (by
                  rw [actC9, List.getElem?_append_right (by simp), show 3 + j - [Value.int .i64 wt, .int .i64 wh, .int .i64 at_].length = j by simp, List.getElem?_append_left (by rw [bcells_length]; exact hjl)]
                  exact hj)
                rw [← this]
                congr 2
                omega
            · exact .inl (.inl hk1)
          refine hcut.elim (fun h => h.elim (fun hk1 => ?A) (fun hx => ?B)) (fun hx => ?C)
          case' A =>
            have hk2 : ¬ (k : Int) < n1 := by omega
            go_upto_region 14 with fail
            obtain ⟨wx, rfl⟩ : ∃ wx, wx = wr := ⟨_, rfl⟩
            obtain ⟨d1, rfl⟩ : ∃ d1, d1 = d := ⟨_, rfl⟩
            have HSX := HS
            clear hcut HS ck hk1 hk2
          case' B =>
            obtain ⟨b1, off1, rfl, hk1, wh, cwh, hneg⟩ := hx
            have hk2 : (k : Int) < n1 := by omega
            go_upto_region 14 with fail
            obtain ⟨wx, rfl⟩ : ∃ wx, wx = wr := ⟨_, rfl⟩
            obtain ⟨d1, rfl⟩ : ∃ d1, d1 = d := ⟨_, rfl⟩
            have HSX := HS
            clear hcut HS ck hk1 hk2 cwh hneg
          case' C =>
            obtain ⟨hk1, b1, off1, rfl, wh, mask, hw0, hw1, hml, hb1l, cwh, hra⟩ := hx
            have hk2 : (k : Int) < n1 := by omega
            have cwr := (HS.out.below.cell (p := ⟨b1, off1 + k * 20 + 1, none⟩) hb1l).trans cwh
            have hrr : wr.rangeAt b1 (off1 + k * 20 + 3) (bcells mask) := fun j x hj => (HS.out.below.cell (p := ⟨b1, off1 + k * 20 + 3 + j, none⟩) hb1l).trans (hra j x hj)
            have HCUT := Lib.hid (HS.out.cut wh hw0 hw1 mask hml)
            have HI := Lib.hid (show (Try.prog.info? 23).map (·.size) = some (bcells mask).length by rw [bcells_length, hml]; kernel_rfl)
            have HBM := Lib.hid (show (bcells mask).toArray = bytes mask by rw [← bytes_toList])
            have HRA := Lib.hid (And.intro cwh hra)
            clear cwh hra
            go_upto_region 13 with fail
            clear cwr
            have cwr := (HS.out.below.cell (p := ⟨b1, off1 + k * 20 + 1, none⟩) hb1l).trans HRA.out.1
            -- REG C BEGIN
            refine wp_region_held_drew (S := fun W' => W'.cell? ⟨b1, off1 + k * 20 + 1, none⟩ = some (.int .i64 wh) ∧ W'.rangeAt b1 (off1 + k * 20 + 3) (bcells mask)) (by kernel_rfl) (⟨cwr, hrr⟩) (fun hHeld => ?_)
            refine wpAnyH_take (i := 0) (v := ?v1) rfl (by kernel_rfl) (by kernel_rfl) (by kernel_rfl) (fun _ _ _ h => h) (Or.inl ⟨by rfl, ?y1⟩) (by assumption) ?r1
            case y1 =>
              intro w' hSw
              go_split_ands
              go_simp
              try with_reducible rfl
            try simp only [List.getElem_toArray, List.getElem_cons_zero, List.getElem_cons_succ, Act.put, List.setIfInBounds_toArray, List.set_cons_zero, List.set_cons_succ]
            refine wpAnyH_take (i := 1) (v := ?v2) rfl (by kernel_rfl) (by kernel_rfl) (by kernel_rfl) (fun _ _ _ h => h) (Or.inl ⟨by rfl, ?y2⟩) (by assumption) ?r2
            case y2 =>
              intro w' hSw
              go_split_ands
              go_simp
              try with_reducible rfl
            try simp only [List.getElem_toArray, List.getElem_cons_zero, List.getElem_cons_succ, Act.put, List.setIfInBounds_toArray, List.set_cons_zero, List.set_cons_succ]
            refine wpAnyH_take (i := 2) (v := ?v3) rfl (by kernel_rfl) (by kernel_rfl) (by kernel_rfl) (fun _ _ _ h => h) (Or.inl ⟨by rfl, ?y3⟩) (by assumption) ?r3
            case y3 =>
              intro w' hSw
              go_split_ands
              go_simp
              try with_reducible rfl
            try simp only [List.getElem_toArray, List.getElem_cons_zero, List.getElem_cons_succ, Act.put, List.setIfInBounds_toArray, List.set_cons_zero, List.set_cons_succ]
            refine wpAnyH_take (i := 3) (v := ?v4) rfl (by kernel_rfl) (by kernel_rfl) (by kernel_rfl) (fun _ _ _ h => h) (Or.inl ⟨by rfl, ?y4⟩) (by assumption) ?r4
            case y4 =>
              intro w' hSw
              go_split_ands
              go_simp
              try with_reducible rfl
            try simp only [List.getElem_toArray, List.getElem_cons_zero, List.getElem_cons_succ, Act.put, List.setIfInBounds_toArray, List.set_cons_zero, List.set_cons_succ]
            refine wpAnyH_take (i := 4) (v := ?v5) rfl (by kernel_rfl) (by kernel_rfl) (by kernel_rfl) (fun _ _ _ h => h) (Or.inl ⟨by rfl, ?y5⟩) (by assumption) ?r5
            case y5 =>
              intro w' hSw
              go_split_ands
              go_simp
              try with_reducible rfl
            try simp only [List.getElem_toArray, List.getElem_cons_zero, List.getElem_cons_succ, Act.put, List.setIfInBounds_toArray, List.set_cons_zero, List.set_cons_succ]
            refine wpAnyH_take (i := 5) (v := ?v6) rfl (by kernel_rfl) (by kernel_rfl) (by kernel_rfl) (fun _ _ _ h => h) (Or.inl ⟨by rfl, ?y6⟩) (by assumption) ?r6
            case y6 =>
              intro w' hSw
              go_split_ands
              go_simp
              try with_reducible rfl
            try simp only [List.getElem_toArray, List.getElem_cons_zero, List.getElem_cons_succ, Act.put, List.setIfInBounds_toArray, List.set_cons_zero, List.set_cons_succ]
            refine wpAnyH_take (i := 6) (v := ?v7) rfl (by kernel_rfl) (by kernel_rfl) (by kernel_rfl) (fun _ _ _ h => h) (Or.inl ⟨by rfl, ?y7⟩) (by assumption) ?r7
            case y7 =>
              intro w' hSw
              go_split_ands
              go_simp
              try with_reducible rfl
            try simp only [List.getElem_toArray, List.getElem_cons_zero, List.getElem_cons_succ, Act.put, List.setIfInBounds_toArray, List.set_cons_zero, List.set_cons_succ]
            refine wpAnyH_take (i := 7) (v := ?v8) rfl (by kernel_rfl) (by kernel_rfl) (by kernel_rfl) (fun _ _ _ h => h) (Or.inl ⟨by rfl, ?y8⟩) (by assumption) ?r8
            case y8 =>
              intro w' hSw
              go_split_ands
              go_simp
              try with_reducible rfl
            try simp only [List.getElem_toArray, List.getElem_cons_zero, List.getElem_cons_succ, Act.put, List.setIfInBounds_toArray, List.set_cons_zero, List.set_cons_succ]
            refine wpAnyH_take (i := 8) (v := ?v9) rfl (by kernel_rfl) (by kernel_rfl) (by kernel_rfl) (fun _ _ _ h => h) (Or.inl ⟨by rfl, ?y9⟩) (by assumption) ?r9
            case y9 =>
              intro w' hSw
              go_split_ands
              go_simp
              try with_reducible rfl
            try simp only [List.getElem_toArray, List.getElem_cons_zero, List.getElem_cons_succ, Act.put, List.setIfInBounds_toArray, List.set_cons_zero, List.set_cons_succ]
            refine wpAnyH_take (i := 9) (v := ?v10) rfl (by kernel_rfl) (by kernel_rfl) (by kernel_rfl) (fun _ _ _ h => h) (Or.inl ⟨by rfl, ?y10⟩) (by assumption) ?r10
            case y10 =>
              intro w' hSw
              go_split_ands
              go_simp
              try with_reducible rfl
            try simp only [List.getElem_toArray, List.getElem_cons_zero, List.getElem_cons_succ, Act.put, List.setIfInBounds_toArray, List.set_cons_zero, List.set_cons_succ]
            refine wpAnyH_take (i := 10) rfl (by kernel_rfl) (by kernel_rfl) (by kernel_rfl) (fun _ _ _ h => h) (yieldsIf_load_mid (by rfl) 23 (.tmp 64) rfl _ _ rfl (bcells mask) _ (fun _ h => h.2) Try.underlying23 rfl (HI.out)) (by assumption) ?_
            try simp only [List.getElem_toArray, List.getElem_cons_zero, List.getElem_cons_succ, Act.put, List.setIfInBounds_toArray, List.set_cons_zero, List.set_cons_succ]
            refine wpAnyH_ready (rs := [11]) (by kernel_rfl) (by simp) ?_
            refine AllReadyH.cons (i := 11) rfl (fun K hK => ?_) AllReadyH.nil
            go_simp
            go_at_call 18
            rw [HBM.out]
            (with_reducible refine Calls.mono ((show WS w wr.drew p g q (.slice a7 M c7) d l want us k from ⟨HS.out.dl.below (Below.drew (Below.refl _ _)), HS.out.good, HS.out.want.fr (Fr.ofBelow (Below.drew (Below.refl _ _))), HS.out.below.drew⟩).cut wh hw0 hw1 mask hml) ?_)
            rintro e wx ⟨⟨ux, rfl⟩, hS⟩
            have HSX := Lib.hid hS
            clear hS
            refine hK.out _ _ (⟨(HSX.out.below.cell (p := ⟨b1, off1 + k * 20 + 1, none⟩) hb1l).trans HRA.out.1, fun j x hj => (HSX.out.below.cell (p := ⟨b1, off1 + k * 20 + 3 + j, none⟩) hb1l).trans (HRA.out.2 j x hj)⟩) (fun hHeld' => ?_)
            clear hHeld hK K
            have hHeld := hHeld'
            clear hHeld'
            try simp only [List.getElem_toArray, List.getElem_cons_zero, List.getElem_cons_succ, Act.put, List.setIfInBounds_toArray, List.set_cons_zero, List.set_cons_succ]
            refine wpAnyH_done (by kernel_rfl) ?_ _
            -- REG C END
            go_upto_region 14 with fail
            obtain ⟨d1, hd1⟩ : ∃ d1, (Dk.cut d wh mask).1 = d1 := ⟨_, rfl⟩
            rw [hd1] at HSX
            clear hcut HS ck hk1 hk2 cwr hrr hw0 hw1 hml hb1l hd1 hHeld HCUT HRA HI HBM
          all_goals
            have hk20 : k < 20 := by omega
            have HA := Lib.hid (HSX.out.append hk20 _ t HSU.out (by have := HTL.out; omega))
            have dk := HCU.out wx HSX.out.below
            go_upto_region 15 with (go_at_call 30; refine HA.out.mono ?_; rintro e w3 ⟨d', c, rfl, hD, hW, hB, hlt3, hnf, hcase⟩; have HD3 := Lib.hid (Gone.mk hD hW hB hnf); have HLT3 := Lib.hid hlt3; have HCS := Lib.hid hcase; clear hD hW hB hlt3 hnf hcase)
            clear dk HA
            have ek := HCU.out w3 HD3.out.below
            refine HCS.out.elim (fun h => ?D) (fun h => ?E)
            case D =>
              obtain ⟨rfl, l', hDL, hG⟩ := h
              have HDL := Lib.hid hDL
              have HG := Lib.hid hG
              clear hDL hG HCS
              go_wp2_with (at_builtin; refine wpList_append_l1 rfl (.tmp 75) (.tmp 80) 47 22 rfl Try.underlying47 info_sl _ us (HD3.out.want.own.alloc _) rfl w3.heap.size (.slice au m cu) rfl (cell_new1 _ _ _) rfl (by have := HM.out; omega) ?_; intro v2 w5 ho hg hat; have HMO := Lib.hid (want_more HDL.out HD3.out.want HD3.out.below hg ho hat HSU.out); clear ho hg hat)
              exact ⟨⟨k + 1, q, d', l', want ++ [t], us ++ [.slice au m cu], by omega, by go_num, rfl, Lib.hid ⟨HMO.out.1, HG.out, HMO.out.2.1, HMO.out.2.2⟩⟩, by simp [intOf]; omega⟩
            case E =>
              obtain ⟨rfl, l', hO, hG⟩ := h
              have HO := Lib.hid hO
              have HG := Lib.hid hG
              clear hO hG HCS
              go_upto_region 23 with (first
                | (go_at_call 25; refine HD3.out.restart.mono ?_; rintro e w4 ⟨rfl, hg⟩; have HD4 := Lib.hid hg; clear hg)
                | (go_at_call 31; refine (HD4.out.open_ HO.out).mono ?_; rintro e w5 ⟨q2, rfl, hd, hw, hb, _⟩; have HDL := Lib.hid hd; have HW5 := Lib.hid hw; have HB5 := Lib.hid hb; clear hd hw hb)
                | (go_at_call 32; refine HDL.out.all.mono ?_; rintro e w6 ⟨vo, us2, rfl, htx, hnew, hb⟩; have HTX := Lib.hid htx; have HNW := Lib.hid hnew; have HDL6 := Lib.hid (HDL.out.below hb); have HW6 := Lib.hid (HW5.out.fr (Fr.ofBelow hb)); have HB6 := Lib.hid (HB5.out.trans (hb.mono HB5.out.size)); clear htx hnew hb))
              obtain ⟨a9, c9, rfl, hl9, hm9⟩ := HTX.out.own.shape
              have q1 : IntKind.i64.wrap ((M : Int) + 1) = M + 1 := by rw [IntKind.wrap_i64]; omega
              have hM100 : M ≤ 100 := by omega
              refine HG.out.elim (fun h => ?F) (fun h => ?G)
              case F =>
                have e9 : us2.length = M := by rw [HTX.out.len, h.txt, ← HD3.out.want.len]; exact HM.out
                have HG2 := Lib.hid h
                have hsv := HTX.out.sls
                rw [e9, h.txt] at hsv
                rw [e9] at hl9 ⊢
                have HSV := Lib.hid hsv
                have hnn : ¬ (M : Int) = M + 1 := by omega
                clear hsv h HG e9
                go_quiet (fail)
                rename_i nq
                go_wp2_with (go_at_call 33; refine (same9_any want want _ _ _ (HSV.out.below (Below.drewN (Below.refl _ _) nq) (Nat.le_refl _)) ((HW6.out.fr (Fr.ofBelow (Below.drewN (Below.refl _ _) nq))).sls (HB6.out.trans (Below.drewN (Below.refl _ _) nq))) (by have := HM.out; have := HD3.out.want.len; omega) (by have := HM.out; have := HD3.out.want.len; omega)).mono ?_; rw [decide_eq_true rfl]; rintro e w7 ⟨rfl, hb⟩; have HB7 := Lib.hid (show Below w6.heap.size w6 w7 from (Below.drewN (Below.refl _ w6) nq).trans hb); clear hb)
                exact ⟨⟨k + 1, q2, _, l', want, us, by omega, by go_num, rfl, Lib.hid ⟨HDL6.out.below HB7.out, HG2.out, HW6.out.fr (Fr.ofBelow HB7.out), HB6.out.trans (HB7.out.mono HB6.out.size)⟩⟩, by simp [intOf]; omega⟩
              case G =>
                have e9 : us2.length = M + 1 := by rw [HTX.out.len, h.txt, List.length_append, ← HD3.out.want.len]; have := HM.out; simp; omega
                have HG2 := Lib.hid h
                have hsv := HTX.out.sls
                rw [e9, h.txt] at hsv
                have HSV := Lib.hid hsv
                have hwl : want.length = M := by have := HM.out; have := HD3.out.want.len; omega
                have hx : ∃ b9 o9 au9 cu9, a9 = some ⟨b9, o9, none⟩ ∧ w6.cell? ⟨b9, o9 + M, none⟩ = some (.slice au9 m cu9) ∧ SlB w6 (.slice au9 m cu9) t := by
                  obtain ⟨a9', c9', e', _, _, hx9⟩ := hsv
                  obtain ⟨b9, o9, u9, ea, hb9, hc9, hs9⟩ := hx9 M (by simp [hwl])
                  have e1 : a9 = a9' := by injection e'
                  have et : (want ++ [t]).getD M [] = t := by simp only [List.getD]; rw [List.getElem?_append_right (by omega)]; simp [hwl]
                  rw [et] at hs9
                  obtain ⟨au9, cu9, rfl⟩ := hs9.len
                  rw [HTL.out] at hc9 hs9
                  exact ⟨b9, o9, au9, cu9, e1.trans ea, hc9, hs9⟩
                obtain ⟨b9, o9, au9, cu9, rfl, hc9, hs9⟩ := hx
                have kc1 := fun n => conv_any (hs9.drewN n)
                have kc2 := fun n => conv_any (HSU.out.below (Below.drewN HB6.out n) (Nat.le_refl _))
                have fk := HCU.out w6 HB6.out
                rw [e9] at hl9 ⊢
                have HWL := Lib.hid hwl
                have HE9 := Lib.hid e9
                clear h HG e9 hs9 hwl hsv
                go_quiet (fail)
                rename_i nq
                go_wp2_with (first
                  | (at_builtin; refine wpList_append_l1 rfl (.tmp 118) (.tmp 123) 47 22 rfl Try.underlying47 info_sl _ us ((HW6.out.fr (Fr.ofBelow (Below.drewN (Below.refl _ w6) nq))).own.alloc _) rfl w6.heap.size (.slice au m cu) rfl (cell_new1 _ _ _) rfl (by have := HM.out; omega) ?_; intro v2 w7 ho hg hat; have HSV7 := Lib.hid (HTX.out.slsKept (w7 := w7) (B := w5.heap.size) (K := (Value.slice a7 M c7).ownBlock.toList) HNW.out.1 HNW.out.2 ((((Kept.refl _ w6).drewN nq).alloc _).grown hg (fun k e => .inl (by rw [e]; simp))) (fun k hm => (World.ownsRow.lt HW5.out.own k (Option.mem_toList.1 hm)).2)); have HMO := Lib.hid (want_more (HDL6.out.below (Below.drewN (Below.refl _ w6) nq)) (HW6.out.fr (Fr.ofBelow (Below.drewN (Below.refl _ w6) nq))) (Below.drewN HB6.out nq) hg ho hat HSU.out); clear ho hg hat)
                  | (go_at_call 33; refine (same9_any (want ++ [t]) (want ++ [t]) _ _ _ (by have := HSV7.out; rw [HE9.out, HG2.out.txt] at this; exact this) (HMO.out.2.1.sls HMO.out.2.2) (by rw [List.length_append, HWL.out]; simp; omega) (by rw [List.length_append, HWL.out]; simp; omega)).mono ?_; rw [decide_eq_true rfl]; rintro e w8 ⟨rfl, hb⟩; have HB8 := Lib.hid hb; clear hb))
                exact ⟨⟨k + 1, q2, _, l', want ++ [t], us ++ [.slice au m cu], by omega, by go_num, rfl, Lib.hid ⟨HMO.out.1.below HB8.out, HG2.out, HMO.out.2.1.fr (Fr.ofBelow HB8.out), HMO.out.2.2.trans (HB8.out.mono HMO.out.2.2.size)⟩⟩, by simp [intOf]; omega⟩
      · obtain rfl : k = n0 := by omega
        have hM100 : M ≤ 100 := by omega
        have HWL := Lib.hid (show want.length = M by have := HM.out; have := HS.out.want.len; omega)
        have HRS := Lib.hid HS.out.restart
        have HFI := Lib.hid HS.out.good.final
        have HTX0 := Lib.hid HS.out.good.txt
        go_wp2_with (first
          | (go_at_call 25; refine HRS.out.mono ?_; rintro e w2 ⟨rfl, hd, hg⟩; have HDL2 := Lib.hid hd; have HG2 := Lib.hid hg; clear hd hg)
          | (go_at_call 31; refine (HG2.out.open_ HFI.out).mono ?_; rintro e w3 ⟨q2, rfl, hd, hw, hb, hb2⟩; have HDM3 := Lib.hid hd; have HW3 := Lib.hid hw; have HB3 := Lib.hid hb; have HDL3 := Lib.hid (HDL2.out.below hb2); clear hd hw hb hb2)
          | (go_at_call 32; refine HDM3.out.all.mono ?_; rintro e w4 ⟨vo, us2, rfl, htx, hnew, hb⟩; have HTX4 := Lib.hid htx.sls; have HDM4 := Lib.hid (HDM3.out.below hb); have HDL4 := Lib.hid (HDL3.out.below hb); have HW4 := Lib.hid (HW3.out.fr (Fr.ofBelow hb)); have HB4 := Lib.hid (HB3.out.trans (hb.mono HB3.out.size)); clear htx hnew hb HDM3)
          | (go_at_call 33; refine (same9_any want want _ _ _ HTX4.out (HW4.out.sls HB4.out) (by rw [HWL.out]; omega) (by rw [HWL.out]; omega)).mono ?_; rw [decide_eq_true rfl]; rintro e w5 ⟨rfl, hb⟩; have HDM5 := Lib.hid (HDM4.out.below hb); have HDL5 := Lib.hid (HDL4.out.below hb); have HW5 := Lib.hid (HW4.out.fr (Fr.ofBelow hb)); have HB5 := Lib.hid (HB4.out.trans (hb.mono HB4.out.size)); clear hb HTX4)
          | (go_at_call 32; refine HDL5.out.all.mono ?_; rintro e w6 ⟨vo2, us3, rfl, htx, hnew, hb⟩; have HTX6 := Lib.hid htx.sls; have HDM6 := Lib.hid (HDM5.out.below hb); have HDL6 := Lib.hid (HDL5.out.below hb); have HW6 := Lib.hid (HW5.out.fr (Fr.ofBelow hb)); have HB6 := Lib.hid (HB5.out.trans (hb.mono HB5.out.size)); clear htx hnew hb HDL5)
          | (go_at_call 33; refine (same9_any want want _ _ _ (by have := HTX6.out; rw [HTX0.out] at this; exact this) (HW6.out.sls HB6.out) (by rw [HWL.out]; omega) (by rw [HWL.out]; omega)).mono ?_; rw [decide_eq_true rfl]; rintro e w7 ⟨rfl, hb⟩; have HDM7 := Lib.hid (HDM6.out.below hb); have HDL7 := Lib.hid (HDL6.out.below hb); have HB7 := Lib.hid (HB6.out.trans (hb.mono HB6.out.size)); clear hb)
          | (go_at_call 34; refine HDM7.out.used.mono ?_; rintro e w8 ⟨rfl, rfl⟩; clear HDM7)
          | (go_at_call 34; refine HDL7.out.used.mono ?_; rintro e w8 ⟨rfl, rfl⟩)
          | (go_at_call 28; refine (HAW.out _).mono ?_; rintro e w9 ⟨rfl, hb⟩; have HB9 := Lib.hid (HB7.out.trans (hb.mono HB7.out.size)); clear hb))
        go_ret
        exact ⟨rfl, HB9.out⟩
end Go.Proofs.Ytdnjjemdnlegdaa
