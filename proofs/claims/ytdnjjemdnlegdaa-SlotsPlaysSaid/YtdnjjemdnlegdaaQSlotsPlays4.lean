/-
  The law SlotsPlays holds of every input: whatever is done to a log on a disk, each answer, the texts, and the disk's bytes, are the reference's.
-/
import Derived.Test.YtdnjjemdnlegdaaQSlotsPlays3
import Derived.Test.YtdnjjemdnlegdaaQSlotsPlays2
import Derived.Test.YtdnjjemdnlegdaaRows
import Derived.Test.YtdnjjemdnlegdaaQSlotsPlays1
namespace Go.Proofs.Ytdnjjemdnlegdaa
set_option linter.unusedVariables false
set_option linter.unusedSimpArgs false
open Go Go.RowKit

set_option maxRecDepth 100000 in
set_option maxHeartbeats 8000000 in
theorem law_slotsPlays {w : World} (x0 x1 x2 : Int) (hx0 : -9223372036854775808 ≤ x0) (hx2 : -9223372036854775808 ≤ x2) (a : Option Addr) (n cap : Nat) (h : Acts9 w a n) (hn : n ≤ cap) (hc : cap ≤ maxLen) :
    Calls Try.prog 7 #[.agg #[.int .i64 x0, .int .i64 x1, .int .i64 x2], .slice a n cap] w fun e w' => e = .returned (.bool true) ∧ Below w.heap.size w w' := by
  obtain ⟨W, hW⟩ : ∃ W, w.alloc (.cells #[.int .i64 x0, .int .i64 x1, .int .i64 x2] 61) = W := ⟨_, rfl⟩
  have HBW := Lib.hid (show Below w.heap.size w W by rw [← hW]; exact (Below.refl _ w).alloc (Nat.le_refl _) _)
  have hwx : W.heap[w.heap.size]? = some (.cells #[.int .i64 x0, .int .i64 x1, .int .i64 x2] 61 (0, 0)) := by rw [← hW]; exact heap_alloc_new w _
  have HWX := Lib.hid hwx
  have HWS := Lib.hid (show W.heap.size = w.heap.size + 1 by rw [← hW]; simp)
  have HAW := Lib.hid (fun w => awake9_any w)
  have h1 : Acts9 W a n := fun hp => by
    obtain ⟨b, off, ha, hb, hx⟩ := h hp
    refine ⟨b, off, ha, Nat.lt_of_lt_of_le hb HBW.out.size, fun i hi => ?_⟩
    obtain ⟨wt, wh, at_, mask, v, xs, hra, hs, r⟩ := hx i hi
    exact ⟨wt, wh, at_, mask, v, xs, fun j u hu => (HBW.out.cell (p := ⟨b, off + i * 20 + j, none⟩) hb).trans (hra j u hu), hs.below HBW.out (Nat.le_refl _), r⟩
  have HLG := Lib.hid (large_any (w := W) x0 x1 x2 a n cap h1 hn hc)
  have H := Lib.hid h
  have c0 : W.cell? ⟨w.heap.size, 0, none⟩ = some (.int .i64 x0) := cell_of_row _ _ 0 _ _ _ hwx
  have c1 : W.cell? ⟨w.heap.size, 1, none⟩ = some (.int .i64 x1) := cell_of_row _ _ 1 _ _ _ hwx
  have c2 : W.cell? ⟨w.heap.size, 2, none⟩ = some (.int .i64 x2) := cell_of_row _ _ 2 _ _ _ hwx
  have HCW := Lib.hid (fun w' (hb : Below W.heap.size W w') => (hb.block w.heap.size (by rw [HWS.out]; omega)).trans hwx)
  clear h h1 hwx hc
  go_enter Try.func7, Try.ntmps7
  go_upto_region 1 with fail
  go_cut [11] (fun s11 wx => ∃ b : Bool, s11 = .bool b ∧ Hid (Below W.heap.size W wx ∧ (b = false → n ≤ 30 ∧ x0 ≤ 60 ∧ ∀ i, i < n → ∀ bk off, a = some ⟨bk, off, none⟩ → lenOf W ⟨bk, off + i * 20 + 19, none⟩ ≤ 2000)))
  case first =>
    go_wp2_with (go_at_call 35; refine HLG.out.mono ?_; rintro e w1 ⟨b, rfl, hb, hf⟩; have HY := Lib.hid (And.intro hb hf); clear hb hf)
    go_meet
    exact ⟨b, rfl, HY⟩
  case rest =>
    obtain ⟨b, rfl, HY⟩ := hcut
    obtain ⟨w1, rfl⟩ : ∃ x, x = wc := ⟨_, rfl⟩
    have HB1 := Lib.hid (HBW.out.trans (HY.out.1.mono HBW.out.size))
    cases b with
    | true =>
      -- ARM t
      go_wp2_with (go_at_call 28; refine (HAW.out _).mono ?_; rintro e w' ⟨rfl, hb⟩; have HB := Lib.hid hb; clear hb)
      go_ret
      exact ⟨rfl, HB1.out.trans (HB.out.mono HB1.out.size)⟩
      -- END t
    | false =>
      obtain ⟨h30, h60, hlen⟩ := HY.out.2 rfl
      have HLEN := Lib.hid hlen
      have HX1 := Lib.hid (HCW.out _ HY.out.1)
      have c0 : w1.cell? ⟨w.heap.size, 0, none⟩ = some (.int .i64 x0) := cell_of_row _ _ 0 _ _ _ HX1.out
      clear c1 c2 hlen HLG
      by_cases hx : x0 < 1
      · skip
        -- ARM n
        have HN := Lib.hid (fun w => dk_new_no x0 hx w)
        go_wp2_with (first
          | (go_at_call 14; refine (HN.out _).mono ?_; rintro e w' ⟨rfl, rfl⟩)
          | (go_at_call 28; refine (HAW.out _).mono ?_; rintro e w' ⟨rfl, hb⟩; have HB := Lib.hid hb; clear hb))
        go_ret
        exact ⟨rfl, HB1.out.trans (HB.out.mono HB1.out.size)⟩
        -- END n
      · obtain ⟨m, rfl⟩ : ∃ m : Nat, x0 = m := ⟨x0.toNat, by omega⟩
        have hm1 : 1 ≤ m := by omega
        have hm60 : m ≤ 60 := by omega
        have HN := Lib.hid (dk_new m hm1 (by omega) w1)
        have HM := Lib.hid (And.intro hm1 hm60)
        have HN30 := Lib.hid h30
        have hmk : ∀ W, (Instr.makeSlice 22 (.int .i64 (128 * (m : Int))) (.int .i64 (128 * (m : Int)))).run Try.prog W = .ok (.slice (some ⟨W.heap.size, 0, none⟩) (128 * m) (128 * m)) (W.alloc (.cells (bytes (List.replicate (128 * m) 0)) 5)) := fun W => by
          rw [show 128 * (m : Int) = ((128 * m : Nat) : Int) by omega]
          exact make_b (128 * m) (by omega) W
        have q1 : IntKind.i64.wrap (128 * (m : Int)) = 128 * (m : Int) := by rw [IntKind.wrap_i64]; omega
        have HMK := Lib.hid (And.intro hmk q1)
        clear hx h60 hx0 hm1 hm60 hmk q1 h30
        go_upto_region 6 with (go_at_call 14; refine HN.out.mono ?_; rintro e w2 ⟨p, g, rfl, hD, hp, hg, hb⟩; have HD := Lib.hid hD; have HPG := Lib.hid (And.intro hp hg); have HB2 := Lib.hid hb; clear hD hp hg hb)
        have HX2 := Lib.hid ((HB2.out.block w.heap.size (by have := HWS.out; have := HY.out.1.size; omega)).trans HX1.out)
        have c0 : w2.cell? ⟨w.heap.size, 0, none⟩ = some (.int .i64 (m : Int)) := cell_of_row _ _ 0 _ _ _ HX2.out
        have c1 : w2.cell? ⟨w.heap.size, 1, none⟩ = some (.int .i64 x1) := cell_of_row _ _ 1 _ _ _ HX2.out
        have c2 : w2.cell? ⟨w.heap.size, 2, none⟩ = some (.int .i64 x2) := cell_of_row _ _ 2 _ _ _ HX2.out
        have HZ := Lib.hid (show w.heap.size < w2.heap.size from (Array.getElem?_eq_some_iff.1 HX2.out).1)
        obtain ⟨hmk, q1⟩ := HMK.out
        have hal1 : ∀ (j : Nat) (v : Value), w2.cell? ⟨w.heap.size, j, none⟩ = some v → ∀ o, (w2.alloc o).cell? ⟨w.heap.size, j, none⟩ = some v := fun j v hj o => (((Below.refl _ w2).alloc (Nat.le_refl _) o).cell (p := ⟨w.heap.size, j, none⟩) HZ.out).trans hj
        have hal2 : ∀ (j : Nat) (v : Value), w2.cell? ⟨w.heap.size, j, none⟩ = some v → ∀ o o', ((w2.alloc o).alloc o').cell? ⟨w.heap.size, j, none⟩ = some v := fun j v hj o o' => ((((Below.refl _ w2).alloc (Nat.le_refl _) o).alloc (by simp) o').cell (p := ⟨w.heap.size, j, none⟩) HZ.out).trans hj
        have a0 := hal1 0 _ c0
        have a1 := hal1 1 _ c1
        have a2 := hal1 2 _ c2
        have b0 := hal2 0 _ c0
        have b1 := hal2 1 _ c1
        have b2 := hal2 2 _ c2
        clear hal1 hal2
        go_cut [7] (fun s7 wx => s7 = .pointer (some ⟨w2.heap.size + 2, 0, none⟩) ∧ Hid (PlayAt (fun k => k < w1.heap.size ∨ k = w2.heap.size + 2) wx (w2.heap.size + 2) p g 0 (w2.heap.size + 1) w2.heap.size 0 (m : Int) x1 x2 (Dk.fresh m) none ∧ Below w2.heap.size w2 wx))
        case first =>
          -- ARM r
          go_region
          all_goals (go_wp2_with fail; go_meet)
          all_goals exact ⟨rfl, Lib.hid (play_alloc HD.out HPG.out HB2.out.size (Nat.le_trans HM.out.2 (by omega)) _ rfl)⟩
          -- END r
        case rest =>
          obtain ⟨rfl, HPA⟩ := hcut
          obtain ⟨w3, rfl⟩ : ∃ x, x = wc := ⟨_, rfl⟩
          have HB3 := Lib.hid (HB1.out.trans ((HB2.out.trans (HPA.out.2.mono HB2.out.size)).mono HB1.out.size))
          have HX3 := Lib.hid ((HPA.out.2.block w.heap.size HZ.out).trans HX2.out)
          have c1 : w3.cell? ⟨w.heap.size, 1, none⟩ = some (.int .i64 x1) := cell_of_row _ _ 1 _ _ _ HX3.out
          have c2 : w3.cell? ⟨w.heap.size, 2, none⟩ = some (.int .i64 x2) := cell_of_row _ _ 2 _ _ _ HX3.out
          obtain ⟨P, hP⟩ : ∃ P, w2.heap.size + 2 = P := ⟨_, rfl⟩
          obtain ⟨r, hr⟩ : ∃ r, w2.heap.size + 1 = r := ⟨_, rfl⟩
          obtain ⟨gr, hgr⟩ : ∃ gr, w2.heap.size = gr := ⟨_, rfl⟩
          obtain ⟨B, hB⟩ : ∃ B, w1.heap.size = B := ⟨_, rfl⟩
          have HSB := Lib.hid (show w.heap.size ≤ B from hB ▸ HB1.out.size)
          have HPB := Lib.hid (show w.heap.size ≤ P by have := HZ.out; omega)
          have HPA2 := Lib.hid (show PlayAt (fun k => k < B ∨ k = P) w3 P p g 0 r gr 0 (m : Int) x1 x2 (Dk.fresh m) none by rw [← hP, ← hr, ← hgr, ← hB]; exact HPA.out.1)
          rw [hP]
          clear a0 a1 a2 b0 b1 b2 c0 hmk q1 HMK HN HPA hP hr hgr hB HX1 HX2 HD HPG HB2 HZ
          by_cases k1 : 1000 < x1
          · skip
            -- ARM f
            go_wp2_with (go_at_call 28; refine (HAW.out _).mono ?_; rintro e w' ⟨rfl, hb⟩; have HB := Lib.hid hb; clear hb)
            go_ret
            exact ⟨rfl, HB3.out.trans (HB.out.mono HB3.out.size)⟩
            -- END f
          by_cases k2 : 1000 < x2
          · skip
            -- ARM g
            go_wp2_with (go_at_call 28; refine (HAW.out _).mono ?_; rintro e w' ⟨rfl, hb⟩; have HB := Lib.hid hb; clear hb)
            go_ret
            exact ⟨rfl, HB3.out.trans (HB.out.mono HB3.out.size)⟩
            -- END g
          by_cases k3 : x1 < -1000
          · skip
            -- ARM h
            go_wp2_with (go_at_call 28; refine (HAW.out _).mono ?_; rintro e w' ⟨rfl, hb⟩; have HB := Lib.hid hb; clear hb)
            go_ret
            exact ⟨rfl, HB3.out.trans (HB.out.mono HB3.out.size)⟩
            -- END h
          have HO := Lib.hid (play_open HPA2.out (Int.not_lt.1 k1) (Int.not_lt.1 k2) hx2)
          have HKK := Lib.hid (And.intro (Int.not_lt.1 k1) (And.intro (Int.not_lt.1 k2) hx2))
          clear hx2
          go_upto_region 9 with (go_at_call 36; refine HO.out.mono ?_; rintro e w4 ⟨rfl, hX, hK⟩; have HX := Lib.hid hX; have HK := Lib.hid hK; clear hX hK)
          have HB4 := Lib.hid (HB3.out.trans (HK.out.toBelow (B := w.heap.size) (by intro k hk; rw [List.mem_singleton] at hk; subst hk; exact HPB.out) HB3.out.size))
          clear c1 c2 k1 k2 k3 HO HPA2 HK HX3
          go_wp2
          go_loopw [8] (fun s8 wr => ∃ k : Nat, k ≤ n ∧ s8 = .int .i64 k ∧ Hid (∃ q s o d, PlayAt (fun k => k < B ∨ k = P) wr P p g q r gr s (m : Int) x1 x2 d o) ∧ Hid (Below w.heap.size w wr)) (fun s8 _ => n - (intOf s8).toNat)
          case atStart =>
            obtain ⟨q4, s4, o4, hX4⟩ := HX.out
            exact ⟨0, Nat.zero_le _, rfl, Lib.hid ⟨q4, s4, o4, _, hX4⟩, HB4⟩
          case round =>
            clear HX
            obtain ⟨k, hk, rfl, HX, HW⟩ := hrel
            by_cases hlt : k < n
            · obtain ⟨b, off, rfl, hbl, hx⟩ := H.out (by omega)
              obtain ⟨wt, wh, at_, mask, v, xs, hra, hs, hml, r1, r2, r3⟩ := hx k hlt
              have hrr : wr.rangeAt b (off + k * 20) (actC9 wt wh at_ mask v) := fun j u hu => (HW.out.cell (p := ⟨b, off + k * 20 + j, none⟩) hbl).trans (hra j u hu)
              have hlen : xs.length ≤ 2000 := by
                have h1 := HLEN.out k hlt b off rfl
                obtain ⟨a1, cap1, rfl⟩ := hs.len
                have c19 : W.cell? ⟨b, off + k * 20 + 19, none⟩ = some (.slice a1 xs.length cap1) := by
                  refine (HBW.out.cell (p := ⟨b, off + k * 20 + 19, none⟩) hbl).trans (hra 19 _ ?_)
                  rw [actC9, List.getElem?_append_right (by simp), List.getElem?_append_right (by rw [bcells_length, hml]; simp), bcells_length, hml]
                  rfl
                unfold lenOf at h1
                rw [c19] at h1
                exact h1
              have HSX := Lib.hid (hs.below HW.out (Nat.le_refl _))
              have HVX := Lib.hid (show xs ≠ [] → ∀ j, v.ownBlock = some j → j < B ∨ j = P from fun h0 j hj => .inl (Nat.lt_of_lt_of_le (hs.lt h0 j hj) HSB.out))
              have HBL := Lib.hid (show b < B ∨ b = P from .inl (Nat.lt_of_lt_of_le hbl HSB.out))
              obtain ⟨q0, s0, o0, d0, hP0⟩ := HX.out
              have HDO := Lib.hid (show Calls Try.prog 37 #[.pointer (some ⟨P, 0, none⟩), .agg (actC9 wt wh at_ mask v).toArray] wr.drew (PlayD (fun k => k < B ∨ k = P) wr.drew P p g r gr (m : Int) x1 x2) from do_any (hP0.drewN 1) wt wh at_ mask v xs hml (HSX.out.drewN 1) HVX.out (by omega) r1 r2.2 r3 HKK.out.1 HKK.out.2.1 HKK.out.2.2)
              have HAI := Lib.hid (show (Try.prog.info? 53).map (·.size) = some (actC9 wt wh at_ mask v).length by simp only [actC9, List.length_append, bcells_length, hml, List.length_cons, List.length_nil]; kernel_rfl)
              have HKR := Lib.hid (fun w' (hF : Fr (fun k => (k < B ∨ k = P) ∧ k ≠ P) wr w') => show w'.rangeAt b (off + k * 20) (actC9 wt wh at_ mask v) from fun j u hu => fr_cell hF ⟨HBL.out, fun e => by have := HPB.out; omega⟩ (hrr j u hu))
              clear hx hra hs r1 r2 r3 hlen hP0
              go_upto_region 12 with fail
              go_cut [97] (fun s97 wx => s97 = .bool false ∧ Hid (∃ q s o d, PlayAt (fun k => k < B ∨ k = P) wx P p g q r gr s (m : Int) x1 x2 d o) ∧ Hid (Below w.heap.size w wx))
              case first =>
                skip
                -- ARM L
                -- REG L BEGIN
                refine wp_region_held_drew (S := fun W' => W'.rangeAt b (off + k * 20) (actC9 wt wh at_ mask v)) (by kernel_rfl) (hrr) (fun hHeld => ?_)
                refine wpAnyH_take (i := 0) (v := ?v1) rfl (by kernel_rfl) (by kernel_rfl) (by kernel_rfl) (fun _ _ _ h => h) (Or.inl ⟨by rfl, ?y1⟩) (by assumption) ?r1
                case y1 =>
                  intro w' hSw
                  go_split_ands
                  go_simp
                  try with_reducible rfl
                try simp only [List.getElem_toArray, List.getElem_cons_zero, List.getElem_cons_succ, Act.put, List.setIfInBounds_toArray, List.set_cons_zero, List.set_cons_succ]
                refine wpAnyH_take (i := 1) (v := ?v2) rfl (by kernel_rfl) (by kernel_rfl) (by kernel_rfl) (fun _ _ _ h => h) (Or.inl ⟨by rfl, ?y2⟩) (by assumption) ?r2
                case y2 =>
                  intro w' hSw
                  go_split_ands
                  go_simp
                  try with_reducible rfl
                try simp only [List.getElem_toArray, List.getElem_cons_zero, List.getElem_cons_succ, Act.put, List.setIfInBounds_toArray, List.set_cons_zero, List.set_cons_succ]
                refine wpAnyH_take (i := 2) (v := ?v3) rfl (by kernel_rfl) (by kernel_rfl) (by kernel_rfl) (fun _ _ _ h => h) (Or.inl ⟨by rfl, ?y3⟩) (by assumption) ?r3
                case y3 =>
                  intro w' hSw
                  go_split_ands
                  go_simp
                  try with_reducible rfl
                try simp only [List.getElem_toArray, List.getElem_cons_zero, List.getElem_cons_succ, Act.put, List.setIfInBounds_toArray, List.set_cons_zero, List.set_cons_succ]
                refine wpAnyH_take (i := 3) (v := ?v4) rfl (by kernel_rfl) (by kernel_rfl) (by kernel_rfl) (fun _ _ _ h => h) (Or.inl ⟨by rfl, ?y4⟩) (by assumption) ?r4
                case y4 =>
                  intro w' hSw
                  go_split_ands
                  go_simp
                  try with_reducible rfl
                try simp only [List.getElem_toArray, List.getElem_cons_zero, List.getElem_cons_succ, Act.put, List.setIfInBounds_toArray, List.set_cons_zero, List.set_cons_succ]
                refine wpAnyH_take (i := 4) rfl (by kernel_rfl) (by kernel_rfl) (by kernel_rfl) (fun _ _ _ h => h) (yieldsIf_load_mid (by rfl) 53 (.tmp 80) rfl _ _ rfl ((actC9 wt wh at_ mask v)) _ (fun _ h => h) Try.underlying53 rfl (HAI.out)) (by assumption) ?_
                try simp only [List.getElem_toArray, List.getElem_cons_zero, List.getElem_cons_succ, Act.put, List.setIfInBounds_toArray, List.set_cons_zero, List.set_cons_succ]
                refine wpAnyH_ready (rs := [5]) (by kernel_rfl) (by simp) ?_
                refine AllReadyH.cons (i := 5) rfl (fun K hK => ?_) AllReadyH.nil
                go_simp
                go_at_call 37
                (with_reducible refine Calls.mono HDO.out ?_)
                rintro e wd ⟨rfl, hX, hF⟩
                obtain ⟨q1, s1, o1, d1, hP1⟩ := hX
                have HP1 := Lib.hid hP1
                have HF1 := Lib.hid (show Fr (fun k => (k < B ∨ k = P) ∧ k ≠ P) wr wd from fr_undrew (n := 1) hF)
                have HWd := Lib.hid (HW.out.trans (HF1.out.toBelow (B := w.heap.size) (fun k hk => ⟨.inl (Nat.lt_of_lt_of_le hk HSB.out), fun e => by have := HPB.out; omega⟩) HW.out.size))
                have c1 := hP1.c1
                obtain ⟨wh1, mk1, hA1⟩ := (rp_disk hP1.duo).1
                have r0 := hA1.c0
                have k2 := conv_any hA1.sl
                have HA1 := Lib.hid hA1
                have HBY := Lib.hid (pp_bytes hP1.duo (RP.part _ _ _ _ _))
                clear hP1 hF hA1
                refine hK.out _ _ (HKR.out _ HF1.out) (fun hHeld' => ?_)
                clear hHeld hK K
                have hHeld := hHeld'
                clear hHeld'
                try simp only [List.getElem_toArray, List.getElem_cons_zero, List.getElem_cons_succ, Act.put, List.setIfInBounds_toArray, List.set_cons_zero, List.set_cons_succ]
                refine wpAnyH_take (i := 6) (v := ?v5) rfl (by kernel_rfl) (by kernel_rfl) (by kernel_rfl) (fun _ _ _ h => h) (Or.inl ⟨by rfl, ?y5⟩) (by assumption) ?r5
                case y5 =>
                  intro w' hSw
                  go_split_ands
                  go_simp
                  try with_reducible rfl
                try simp only [List.getElem_toArray, List.getElem_cons_zero, List.getElem_cons_succ, Act.put, List.setIfInBounds_toArray, List.set_cons_zero, List.set_cons_succ]
                refine wpAnyH_take (i := 7) (v := ?v6) rfl (by kernel_rfl) (by kernel_rfl) (by kernel_rfl) (fun _ _ _ h => h) (Or.inl ⟨by rfl, ?y6⟩) (by assumption) ?r6
                case y6 =>
                  intro w' hSw
                  go_split_ands
                  go_simp
                  try with_reducible rfl
                try simp only [List.getElem_toArray, List.getElem_cons_zero, List.getElem_cons_succ, Act.put, List.setIfInBounds_toArray, List.set_cons_zero, List.set_cons_succ]
                refine wpAnyH_take (i := 8) (v := ?v7) rfl (by kernel_rfl) (by kernel_rfl) (by kernel_rfl) (fun _ _ _ h => h) (Or.inl ⟨by rfl, ?y7⟩) (by assumption) ?r7
                case y7 =>
                  intro w' hSw
                  go_split_ands
                  go_simp
                  try with_reducible rfl
                try simp only [List.getElem_toArray, List.getElem_cons_zero, List.getElem_cons_succ, Act.put, List.setIfInBounds_toArray, List.set_cons_zero, List.set_cons_succ]
                refine wpAnyH_take (i := 11) (v := ?v8) rfl (by kernel_rfl) (by kernel_rfl) (by kernel_rfl) (fun _ _ _ h => h) (Or.inl ⟨by rfl, ?y8⟩) (by assumption) ?r8
                case y8 =>
                  intro w' hSw
                  go_split_ands
                  go_simp
                  try with_reducible rfl
                try simp only [List.getElem_toArray, List.getElem_cons_zero, List.getElem_cons_succ, Act.put, List.setIfInBounds_toArray, List.set_cons_zero, List.set_cons_succ]
                refine wpAnyH_take (i := 12) (v := ?v9) rfl (by kernel_rfl) (by kernel_rfl) (by kernel_rfl) (fun _ _ _ h => h) (Or.inl ⟨by rfl, ?y9⟩) (by assumption) ?r9
                case y9 =>
                  intro w' hSw
                  go_split_ands
                  go_simp
                  try with_reducible rfl
                try simp only [List.getElem_toArray, List.getElem_cons_zero, List.getElem_cons_succ, Act.put, List.setIfInBounds_toArray, List.set_cons_zero, List.set_cons_succ]
                refine wpAnyH_take (i := 13) (v := ?v10) rfl (by kernel_rfl) (by kernel_rfl) (by kernel_rfl) (fun _ _ _ h => h) (Or.inl ⟨by rfl, ?y10⟩) (by assumption) ?r10
                case y10 =>
                  intro w' hSw
                  go_split_ands
                  go_simp
                  try with_reducible rfl
                try simp only [List.getElem_toArray, List.getElem_cons_zero, List.getElem_cons_succ, Act.put, List.setIfInBounds_toArray, List.set_cons_zero, List.set_cons_succ]
                refine wpAnyH_ready (rs := [9, 14]) (by kernel_rfl) (by simp) ?_
                refine (AllReadyH.cons (i := 9) rfl (fun K hK => ?_) (AllReadyH.cons (i := 14) rfl (fun K hK => ?_) AllReadyH.nil))
                · go_simp
                  go_at_call 17
                  (with_reducible refine Calls.mono HBY.out ?_)
                  rintro e wb ⟨vb, rfl, ho, hb⟩
                  obtain ⟨ab, cb, rfl⟩ := ho.sl.len
                  have k1 := conv_any ho.sl
                  have k2b := conv_any (HA1.out.sl.below hb (Nat.le_refl _))
                  have c1b := (hb.cell (p := ⟨P, 1, none⟩) HP1.out.lt).trans HP1.out.c1
                  have r0b := (hb.cell (p := ⟨r, 0, none⟩) HA1.out.ltr).trans HA1.out.c0
                  have HBb := Lib.hid hb
                  clear ho hb
                  refine hK.out _ _ (HKR.out _ (HF1.out.trans (Fr.ofBelow HBb.out))) (fun hHeld' => ?_)
                  clear hHeld hK K
                  have hHeld := hHeld'
                  clear hHeld'
                  try simp only [List.getElem_toArray, List.getElem_cons_zero, List.getElem_cons_succ, Act.put, List.setIfInBounds_toArray, List.set_cons_zero, List.set_cons_succ]
                  refine wpAnyH_ready (rs := [10, 14]) (by kernel_rfl) (by simp) ?_
                  refine (AllReadyH.cons (i := 10) rfl (fun K hK => ?_) (AllReadyH.cons (i := 14) rfl (fun K hK => ?_) AllReadyH.nil))
                  · go_simp
                    refine hK.out _ _ (HKR.out _ (HF1.out.trans (Fr.ofBelow HBb.out))) (fun hHeld' => ?_)
                    clear hHeld hK K
                    have hHeld := hHeld'
                    clear hHeld'
                    try simp only [List.getElem_toArray, List.getElem_cons_zero, List.getElem_cons_succ, Act.put, List.setIfInBounds_toArray, List.set_cons_zero, List.set_cons_succ]
                    refine wpAnyH_ready (rs := [14]) (by kernel_rfl) (by simp) ?_
                    refine AllReadyH.cons (i := 14) rfl (fun K hK => ?_) AllReadyH.nil
                    go_simp
                    refine hK.out _ _ (HKR.out _ (HF1.out.trans (Fr.ofBelow HBb.out))) (fun hHeld' => ?_)
                    clear hHeld hK K
                    have hHeld := hHeld'
                    clear hHeld'
                    try simp only [List.getElem_toArray, List.getElem_cons_zero, List.getElem_cons_succ, Act.put, List.setIfInBounds_toArray, List.set_cons_zero, List.set_cons_succ]
                    refine wpAnyH_take (i := 15) (v := ?v11) rfl (by kernel_rfl) (by kernel_rfl) (by kernel_rfl) (fun _ _ _ h => h) (Or.inl ⟨by rfl, ?y11⟩) (by assumption) ?r11
                    case y11 =>
                      intro w' hSw
                      go_split_ands
                      go_simp
                      try with_reducible rfl
                    try simp only [List.getElem_toArray, List.getElem_cons_zero, List.getElem_cons_succ, Act.put, List.setIfInBounds_toArray, List.set_cons_zero, List.set_cons_succ]
                    refine wpAnyH_take (i := 16) (v := ?v12) rfl (by kernel_rfl) (by kernel_rfl) (by kernel_rfl) (fun _ _ _ h => h) (Or.inl ⟨by rfl, ?y12⟩) (by assumption) ?r12
                    case y12 =>
                      intro w' hSw
                      go_split_ands
                      go_simp
                      try with_reducible rfl
                    try simp only [List.getElem_toArray, List.getElem_cons_zero, List.getElem_cons_succ, Act.put, List.setIfInBounds_toArray, List.set_cons_zero, List.set_cons_succ]
                    refine wpAnyH_ready (rs := [17]) (by kernel_rfl) (by simp) ?_
                    refine AllReadyH.cons (i := 17) rfl (fun K hK => ?_) AllReadyH.nil
                    go_simp
                    refine hK.out _ _ (HKR.out _ (HF1.out.trans (Fr.ofBelow HBb.out))) (fun hHeld' => ?_)
                    clear hHeld hK K
                    have hHeld := hHeld'
                    clear hHeld'
                    try simp only [List.getElem_toArray, List.getElem_cons_zero, List.getElem_cons_succ, Act.put, List.setIfInBounds_toArray, List.set_cons_zero, List.set_cons_succ]
                    refine wpAnyH_ready (rs := [18]) (by kernel_rfl) (by simp) ?_
                    refine AllReadyH.cons (i := 18) rfl (fun K hK => ?_) AllReadyH.nil
                    go_simp
                    refine hK.out _ _ (HKR.out _ (HF1.out.trans (Fr.ofBelow HBb.out))) (fun hHeld' => ?_)
                    clear hHeld hK K
                    have hHeld := hHeld'
                    clear hHeld'
                    try simp only [List.getElem_toArray, List.getElem_cons_zero, List.getElem_cons_succ, Act.put, List.setIfInBounds_toArray, List.set_cons_zero, List.set_cons_succ]
                    refine wpAnyH_take (i := 19) (v := ?v13) rfl (by kernel_rfl) (by kernel_rfl) (by kernel_rfl) (fun _ _ _ h => h) (Or.inl ⟨by rfl, ?y13⟩) (by assumption) ?r13
                    case y13 =>
                      intro w' hSw
                      go_split_ands
                      go_simp
                      try with_reducible rfl
                    try simp only [List.getElem_toArray, List.getElem_cons_zero, List.getElem_cons_succ, Act.put, List.setIfInBounds_toArray, List.set_cons_zero, List.set_cons_succ]
                    refine wpAnyH_take (i := 20) (v := ?v14) rfl (by kernel_rfl) (by kernel_rfl) (by kernel_rfl) (fun _ _ _ h => h) (Or.inl ⟨by rfl, ?y14⟩) (by assumption) ?r14
                    case y14 =>
                      intro w' hSw
                      go_split_ands
                      go_simp
                      try with_reducible rfl
                    try simp only [List.getElem_toArray, List.getElem_cons_zero, List.getElem_cons_succ, Act.put, List.setIfInBounds_toArray, List.set_cons_zero, List.set_cons_succ]
                    refine wpAnyH_done (by kernel_rfl) ?_ _
                    go_wp2_with fail
                    go_meet
                    exact ⟨rfl, Lib.hid ⟨q1, s1, o1, d1, HP1.out.below HBb.out⟩, Lib.hid (HWd.out.trans (HBb.out.mono HWd.out.size))⟩
                  · go_simp
                    refine hK.out _ _ (HKR.out _ (HF1.out.trans (Fr.ofBelow HBb.out))) (fun hHeld' => ?_)
                    clear hHeld hK K
                    have hHeld := hHeld'
                    clear hHeld'
                    try simp only [List.getElem_toArray, List.getElem_cons_zero, List.getElem_cons_succ, Act.put, List.setIfInBounds_toArray, List.set_cons_zero, List.set_cons_succ]
                    refine wpAnyH_take (i := 15) (v := ?v15) rfl (by kernel_rfl) (by kernel_rfl) (by kernel_rfl) (fun _ _ _ h => h) (Or.inl ⟨by rfl, ?y15⟩) (by assumption) ?r15
                    case y15 =>
                      intro w' hSw
                      go_split_ands
                      go_simp
                      try with_reducible rfl
                    try simp only [List.getElem_toArray, List.getElem_cons_zero, List.getElem_cons_succ, Act.put, List.setIfInBounds_toArray, List.set_cons_zero, List.set_cons_succ]
                    refine wpAnyH_take (i := 16) (v := ?v16) rfl (by kernel_rfl) (by kernel_rfl) (by kernel_rfl) (fun _ _ _ h => h) (Or.inl ⟨by rfl, ?y16⟩) (by assumption) ?r16
                    case y16 =>
                      intro w' hSw
                      go_split_ands
                      go_simp
                      try with_reducible rfl
                    try simp only [List.getElem_toArray, List.getElem_cons_zero, List.getElem_cons_succ, Act.put, List.setIfInBounds_toArray, List.set_cons_zero, List.set_cons_succ]
                    refine wpAnyH_ready (rs := [10, 17]) (by kernel_rfl) (by simp) ?_
                    refine (AllReadyH.cons (i := 10) rfl (fun K hK => ?_) (AllReadyH.cons (i := 17) rfl (fun K hK => ?_) AllReadyH.nil))
                    · go_simp
                      refine hK.out _ _ (HKR.out _ (HF1.out.trans (Fr.ofBelow HBb.out))) (fun hHeld' => ?_)
                      clear hHeld hK K
                      have hHeld := hHeld'
                      clear hHeld'
                      try simp only [List.getElem_toArray, List.getElem_cons_zero, List.getElem_cons_succ, Act.put, List.setIfInBounds_toArray, List.set_cons_zero, List.set_cons_succ]
                      refine wpAnyH_ready (rs := [17]) (by kernel_rfl) (by simp) ?_
                      refine AllReadyH.cons (i := 17) rfl (fun K hK => ?_) AllReadyH.nil
                      go_simp
                      refine hK.out _ _ (HKR.out _ (HF1.out.trans (Fr.ofBelow HBb.out))) (fun hHeld' => ?_)
                      clear hHeld hK K
                      have hHeld := hHeld'
                      clear hHeld'
                      try simp only [List.getElem_toArray, List.getElem_cons_zero, List.getElem_cons_succ, Act.put, List.setIfInBounds_toArray, List.set_cons_zero, List.set_cons_succ]
                      refine wpAnyH_ready (rs := [18]) (by kernel_rfl) (by simp) ?_
                      refine AllReadyH.cons (i := 18) rfl (fun K hK => ?_) AllReadyH.nil
                      go_simp
                      refine hK.out _ _ (HKR.out _ (HF1.out.trans (Fr.ofBelow HBb.out))) (fun hHeld' => ?_)
                      clear hHeld hK K
                      have hHeld := hHeld'
                      clear hHeld'
                      try simp only [List.getElem_toArray, List.getElem_cons_zero, List.getElem_cons_succ, Act.put, List.setIfInBounds_toArray, List.set_cons_zero, List.set_cons_succ]
                      refine wpAnyH_take (i := 19) (v := ?v17) rfl (by kernel_rfl) (by kernel_rfl) (by kernel_rfl) (fun _ _ _ h => h) (Or.inl ⟨by rfl, ?y17⟩) (by assumption) ?r17
                      case y17 =>
                        intro w' hSw
                        go_split_ands
                        go_simp
                        try with_reducible rfl
                      try simp only [List.getElem_toArray, List.getElem_cons_zero, List.getElem_cons_succ, Act.put, List.setIfInBounds_toArray, List.set_cons_zero, List.set_cons_succ]
                      refine wpAnyH_take (i := 20) (v := ?v18) rfl (by kernel_rfl) (by kernel_rfl) (by kernel_rfl) (fun _ _ _ h => h) (Or.inl ⟨by rfl, ?y18⟩) (by assumption) ?r18
                      case y18 =>
                        intro w' hSw
                        go_split_ands
                        go_simp
                        try with_reducible rfl
                      try simp only [List.getElem_toArray, List.getElem_cons_zero, List.getElem_cons_succ, Act.put, List.setIfInBounds_toArray, List.set_cons_zero, List.set_cons_succ]
                      refine wpAnyH_done (by kernel_rfl) ?_ _
                      go_wp2_with fail
                      go_meet
                      exact ⟨rfl, Lib.hid ⟨q1, s1, o1, d1, HP1.out.below HBb.out⟩, Lib.hid (HWd.out.trans (HBb.out.mono HWd.out.size))⟩
                    · go_simp
                      refine hK.out _ _ (HKR.out _ (HF1.out.trans (Fr.ofBelow HBb.out))) (fun hHeld' => ?_)
                      clear hHeld hK K
                      have hHeld := hHeld'
                      clear hHeld'
                      try simp only [List.getElem_toArray, List.getElem_cons_zero, List.getElem_cons_succ, Act.put, List.setIfInBounds_toArray, List.set_cons_zero, List.set_cons_succ]
                      refine wpAnyH_ready (rs := [10, 18]) (by kernel_rfl) (by simp) ?_
                      refine (AllReadyH.cons (i := 10) rfl (fun K hK => ?_) (AllReadyH.cons (i := 18) rfl (fun K hK => ?_) AllReadyH.nil))
                      · go_simp
                        refine hK.out _ _ (HKR.out _ (HF1.out.trans (Fr.ofBelow HBb.out))) (fun hHeld' => ?_)
                        clear hHeld hK K
                        have hHeld := hHeld'
                        clear hHeld'
                        try simp only [List.getElem_toArray, List.getElem_cons_zero, List.getElem_cons_succ, Act.put, List.setIfInBounds_toArray, List.set_cons_zero, List.set_cons_succ]
                        refine wpAnyH_ready (rs := [18]) (by kernel_rfl) (by simp) ?_
                        refine AllReadyH.cons (i := 18) rfl (fun K hK => ?_) AllReadyH.nil
                        go_simp
                        refine hK.out _ _ (HKR.out _ (HF1.out.trans (Fr.ofBelow HBb.out))) (fun hHeld' => ?_)
                        clear hHeld hK K
                        have hHeld := hHeld'
                        clear hHeld'
                        try simp only [List.getElem_toArray, List.getElem_cons_zero, List.getElem_cons_succ, Act.put, List.setIfInBounds_toArray, List.set_cons_zero, List.set_cons_succ]
                        refine wpAnyH_take (i := 19) (v := ?v19) rfl (by kernel_rfl) (by kernel_rfl) (by kernel_rfl) (fun _ _ _ h => h) (Or.inl ⟨by rfl, ?y19⟩) (by assumption) ?r19
                        case y19 =>
                          intro w' hSw
                          go_split_ands
                          go_simp
                          try with_reducible rfl
                        try simp only [List.getElem_toArray, List.getElem_cons_zero, List.getElem_cons_succ, Act.put, List.setIfInBounds_toArray, List.set_cons_zero, List.set_cons_succ]
                        refine wpAnyH_take (i := 20) (v := ?v20) rfl (by kernel_rfl) (by kernel_rfl) (by kernel_rfl) (fun _ _ _ h => h) (Or.inl ⟨by rfl, ?y20⟩) (by assumption) ?r20
                        case y20 =>
                          intro w' hSw
                          go_split_ands
                          go_simp
                          try with_reducible rfl
                        try simp only [List.getElem_toArray, List.getElem_cons_zero, List.getElem_cons_succ, Act.put, List.setIfInBounds_toArray, List.set_cons_zero, List.set_cons_succ]
                        refine wpAnyH_done (by kernel_rfl) ?_ _
                        go_wp2_with fail
                        go_meet
                        exact ⟨rfl, Lib.hid ⟨q1, s1, o1, d1, HP1.out.below HBb.out⟩, Lib.hid (HWd.out.trans (HBb.out.mono HWd.out.size))⟩
                      · go_simp
                        refine hK.out _ _ (HKR.out _ (HF1.out.trans (Fr.ofBelow HBb.out))) (fun hHeld' => ?_)
                        clear hHeld hK K
                        have hHeld := hHeld'
                        clear hHeld'
                        try simp only [List.getElem_toArray, List.getElem_cons_zero, List.getElem_cons_succ, Act.put, List.setIfInBounds_toArray, List.set_cons_zero, List.set_cons_succ]
                        refine wpAnyH_ready (rs := [10]) (by kernel_rfl) (by simp) ?_
                        refine AllReadyH.cons (i := 10) rfl (fun K hK => ?_) AllReadyH.nil
                        go_simp
                        refine hK.out _ _ (HKR.out _ (HF1.out.trans (Fr.ofBelow HBb.out))) (fun hHeld' => ?_)
                        clear hHeld hK K
                        have hHeld := hHeld'
                        clear hHeld'
                        try simp only [List.getElem_toArray, List.getElem_cons_zero, List.getElem_cons_succ, Act.put, List.setIfInBounds_toArray, List.set_cons_zero, List.set_cons_succ]
                        refine wpAnyH_take (i := 19) (v := ?v21) rfl (by kernel_rfl) (by kernel_rfl) (by kernel_rfl) (fun _ _ _ h => h) (Or.inl ⟨by rfl, ?y21⟩) (by assumption) ?r21
                        case y21 =>
                          intro w' hSw
                          go_split_ands
                          go_simp
                          try with_reducible rfl
                        try simp only [List.getElem_toArray, List.getElem_cons_zero, List.getElem_cons_succ, Act.put, List.setIfInBounds_toArray, List.set_cons_zero, List.set_cons_succ]
                        refine wpAnyH_take (i := 20) (v := ?v22) rfl (by kernel_rfl) (by kernel_rfl) (by kernel_rfl) (fun _ _ _ h => h) (Or.inl ⟨by rfl, ?y22⟩) (by assumption) ?r22
                        case y22 =>
                          intro w' hSw
                          go_split_ands
                          go_simp
                          try with_reducible rfl
                        try simp only [List.getElem_toArray, List.getElem_cons_zero, List.getElem_cons_succ, Act.put, List.setIfInBounds_toArray, List.set_cons_zero, List.set_cons_succ]
                        refine wpAnyH_done (by kernel_rfl) ?_ _
                        go_wp2_with fail
                        go_meet
                        exact ⟨rfl, Lib.hid ⟨q1, s1, o1, d1, HP1.out.below HBb.out⟩, Lib.hid (HWd.out.trans (HBb.out.mono HWd.out.size))⟩
                · go_simp
                  refine hK.out _ _ (HKR.out _ HF1.out) (fun hHeld' => ?_)
                  clear hHeld hK K
                  have hHeld := hHeld'
                  clear hHeld'
                  try simp only [List.getElem_toArray, List.getElem_cons_zero, List.getElem_cons_succ, Act.put, List.setIfInBounds_toArray, List.set_cons_zero, List.set_cons_succ]
                  refine wpAnyH_take (i := 15) (v := ?v23) rfl (by kernel_rfl) (by kernel_rfl) (by kernel_rfl) (fun _ _ _ h => h) (Or.inl ⟨by rfl, ?y23⟩) (by assumption) ?r23
                  case y23 =>
                    intro w' hSw
                    go_split_ands
                    go_simp
                    try with_reducible rfl
                  try simp only [List.getElem_toArray, List.getElem_cons_zero, List.getElem_cons_succ, Act.put, List.setIfInBounds_toArray, List.set_cons_zero, List.set_cons_succ]
                  refine wpAnyH_take (i := 16) (v := ?v24) rfl (by kernel_rfl) (by kernel_rfl) (by kernel_rfl) (fun _ _ _ h => h) (Or.inl ⟨by rfl, ?y24⟩) (by assumption) ?r24
                  case y24 =>
                    intro w' hSw
                    go_split_ands
                    go_simp
                    try with_reducible rfl
                  try simp only [List.getElem_toArray, List.getElem_cons_zero, List.getElem_cons_succ, Act.put, List.setIfInBounds_toArray, List.set_cons_zero, List.set_cons_succ]
                  refine wpAnyH_ready (rs := [9, 17]) (by kernel_rfl) (by simp) ?_
                  refine (AllReadyH.cons (i := 9) rfl (fun K hK => ?_) (AllReadyH.cons (i := 17) rfl (fun K hK => ?_) AllReadyH.nil))
                  · go_simp
                    go_at_call 17
                    (with_reducible refine Calls.mono HBY.out ?_)
                    rintro e wb ⟨vb, rfl, ho, hb⟩
                    obtain ⟨ab, cb, rfl⟩ := ho.sl.len
                    have k1 := conv_any ho.sl
                    have k2b := conv_any (HA1.out.sl.below hb (Nat.le_refl _))
                    have c1b := (hb.cell (p := ⟨P, 1, none⟩) HP1.out.lt).trans HP1.out.c1
                    have r0b := (hb.cell (p := ⟨r, 0, none⟩) HA1.out.ltr).trans HA1.out.c0
                    have HBb := Lib.hid hb
                    clear ho hb
                    refine hK.out _ _ (HKR.out _ (HF1.out.trans (Fr.ofBelow HBb.out))) (fun hHeld' => ?_)
                    clear hHeld hK K
                    have hHeld := hHeld'
                    clear hHeld'
                    try simp only [List.getElem_toArray, List.getElem_cons_zero, List.getElem_cons_succ, Act.put, List.setIfInBounds_toArray, List.set_cons_zero, List.set_cons_succ]
                    refine wpAnyH_ready (rs := [10, 17]) (by kernel_rfl) (by simp) ?_
                    refine (AllReadyH.cons (i := 10) rfl (fun K hK => ?_) (AllReadyH.cons (i := 17) rfl (fun K hK => ?_) AllReadyH.nil))
                    · go_simp
                      refine hK.out _ _ (HKR.out _ (HF1.out.trans (Fr.ofBelow HBb.out))) (fun hHeld' => ?_)
                      clear hHeld hK K
                      have hHeld := hHeld'
                      clear hHeld'
                      try simp only [List.getElem_toArray, List.getElem_cons_zero, List.getElem_cons_succ, Act.put, List.setIfInBounds_toArray, List.set_cons_zero, List.set_cons_succ]
                      refine wpAnyH_ready (rs := [17]) (by kernel_rfl) (by simp) ?_
                      refine AllReadyH.cons (i := 17) rfl (fun K hK => ?_) AllReadyH.nil
                      go_simp
                      refine hK.out _ _ (HKR.out _ (HF1.out.trans (Fr.ofBelow HBb.out))) (fun hHeld' => ?_)
                      clear hHeld hK K
                      have hHeld := hHeld'
                      clear hHeld'
                      try simp only [List.getElem_toArray, List.getElem_cons_zero, List.getElem_cons_succ, Act.put, List.setIfInBounds_toArray, List.set_cons_zero, List.set_cons_succ]
                      refine wpAnyH_ready (rs := [18]) (by kernel_rfl) (by simp) ?_
                      refine AllReadyH.cons (i := 18) rfl (fun K hK => ?_) AllReadyH.nil
                      go_simp
                      refine hK.out _ _ (HKR.out _ (HF1.out.trans (Fr.ofBelow HBb.out))) (fun hHeld' => ?_)
                      clear hHeld hK K
                      have hHeld := hHeld'
                      clear hHeld'
                      try simp only [List.getElem_toArray, List.getElem_cons_zero, List.getElem_cons_succ, Act.put, List.setIfInBounds_toArray, List.set_cons_zero, List.set_cons_succ]
                      refine wpAnyH_take (i := 19) (v := ?v25) rfl (by kernel_rfl) (by kernel_rfl) (by kernel_rfl) (fun _ _ _ h => h) (Or.inl ⟨by rfl, ?y25⟩) (by assumption) ?r25
                      case y25 =>
                        intro w' hSw
                        go_split_ands
                        go_simp
                        try with_reducible rfl
                      try simp only [List.getElem_toArray, List.getElem_cons_zero, List.getElem_cons_succ, Act.put, List.setIfInBounds_toArray, List.set_cons_zero, List.set_cons_succ]
                      refine wpAnyH_take (i := 20) (v := ?v26) rfl (by kernel_rfl) (by kernel_rfl) (by kernel_rfl) (fun _ _ _ h => h) (Or.inl ⟨by rfl, ?y26⟩) (by assumption) ?r26
                      case y26 =>
                        intro w' hSw
                        go_split_ands
                        go_simp
                        try with_reducible rfl
                      try simp only [List.getElem_toArray, List.getElem_cons_zero, List.getElem_cons_succ, Act.put, List.setIfInBounds_toArray, List.set_cons_zero, List.set_cons_succ]
                      refine wpAnyH_done (by kernel_rfl) ?_ _
                      go_wp2_with fail
                      go_meet
                      exact ⟨rfl, Lib.hid ⟨q1, s1, o1, d1, HP1.out.below HBb.out⟩, Lib.hid (HWd.out.trans (HBb.out.mono HWd.out.size))⟩
                    · go_simp
                      refine hK.out _ _ (HKR.out _ (HF1.out.trans (Fr.ofBelow HBb.out))) (fun hHeld' => ?_)
                      clear hHeld hK K
                      have hHeld := hHeld'
                      clear hHeld'
                      try simp only [List.getElem_toArray, List.getElem_cons_zero, List.getElem_cons_succ, Act.put, List.setIfInBounds_toArray, List.set_cons_zero, List.set_cons_succ]
                      refine wpAnyH_ready (rs := [10, 18]) (by kernel_rfl) (by simp) ?_
                      refine (AllReadyH.cons (i := 10) rfl (fun K hK => ?_) (AllReadyH.cons (i := 18) rfl (fun K hK => ?_) AllReadyH.nil))
                      · go_simp
                        refine hK.out _ _ (HKR.out _ (HF1.out.trans (Fr.ofBelow HBb.out))) (fun hHeld' => ?_)
                        clear hHeld hK K
                        have hHeld := hHeld'
                        clear hHeld'
                        try simp only [List.getElem_toArray, List.getElem_cons_zero, List.getElem_cons_succ, Act.put, List.setIfInBounds_toArray, List.set_cons_zero, List.set_cons_succ]
                        refine wpAnyH_ready (rs := [18]) (by kernel_rfl) (by simp) ?_
                        refine AllReadyH.cons (i := 18) rfl (fun K hK => ?_) AllReadyH.nil
                        go_simp
                        refine hK.out _ _ (HKR.out _ (HF1.out.trans (Fr.ofBelow HBb.out))) (fun hHeld' => ?_)
                        clear hHeld hK K
                        have hHeld := hHeld'
                        clear hHeld'
                        try simp only [List.getElem_toArray, List.getElem_cons_zero, List.getElem_cons_succ, Act.put, List.setIfInBounds_toArray, List.set_cons_zero, List.set_cons_succ]
                        refine wpAnyH_take (i := 19) (v := ?v27) rfl (by kernel_rfl) (by kernel_rfl) (by kernel_rfl) (fun _ _ _ h => h) (Or.inl ⟨by rfl, ?y27⟩) (by assumption) ?r27
                        case y27 =>
                          intro w' hSw
                          go_split_ands
                          go_simp
                          try with_reducible rfl
                        try simp only [List.getElem_toArray, List.getElem_cons_zero, List.getElem_cons_succ, Act.put, List.setIfInBounds_toArray, List.set_cons_zero, List.set_cons_succ]
                        refine wpAnyH_take (i := 20) (v := ?v28) rfl (by kernel_rfl) (by kernel_rfl) (by kernel_rfl) (fun _ _ _ h => h) (Or.inl ⟨by rfl, ?y28⟩) (by assumption) ?r28
                        case y28 =>
                          intro w' hSw
                          go_split_ands
                          go_simp
                          try with_reducible rfl
                        try simp only [List.getElem_toArray, List.getElem_cons_zero, List.getElem_cons_succ, Act.put, List.setIfInBounds_toArray, List.set_cons_zero, List.set_cons_succ]
                        refine wpAnyH_done (by kernel_rfl) ?_ _
                        go_wp2_with fail
                        go_meet
                        exact ⟨rfl, Lib.hid ⟨q1, s1, o1, d1, HP1.out.below HBb.out⟩, Lib.hid (HWd.out.trans (HBb.out.mono HWd.out.size))⟩
                      · go_simp
                        refine hK.out _ _ (HKR.out _ (HF1.out.trans (Fr.ofBelow HBb.out))) (fun hHeld' => ?_)
                        clear hHeld hK K
                        have hHeld := hHeld'
                        clear hHeld'
                        try simp only [List.getElem_toArray, List.getElem_cons_zero, List.getElem_cons_succ, Act.put, List.setIfInBounds_toArray, List.set_cons_zero, List.set_cons_succ]
                        refine wpAnyH_ready (rs := [10]) (by kernel_rfl) (by simp) ?_
                        refine AllReadyH.cons (i := 10) rfl (fun K hK => ?_) AllReadyH.nil
                        go_simp
                        refine hK.out _ _ (HKR.out _ (HF1.out.trans (Fr.ofBelow HBb.out))) (fun hHeld' => ?_)
                        clear hHeld hK K
                        have hHeld := hHeld'
                        clear hHeld'
                        try simp only [List.getElem_toArray, List.getElem_cons_zero, List.getElem_cons_succ, Act.put, List.setIfInBounds_toArray, List.set_cons_zero, List.set_cons_succ]
                        refine wpAnyH_take (i := 19) (v := ?v29) rfl (by kernel_rfl) (by kernel_rfl) (by kernel_rfl) (fun _ _ _ h => h) (Or.inl ⟨by rfl, ?y29⟩) (by assumption) ?r29
                        case y29 =>
                          intro w' hSw
                          go_split_ands
                          go_simp
                          try with_reducible rfl
                        try simp only [List.getElem_toArray, List.getElem_cons_zero, List.getElem_cons_succ, Act.put, List.setIfInBounds_toArray, List.set_cons_zero, List.set_cons_succ]
                        refine wpAnyH_take (i := 20) (v := ?v30) rfl (by kernel_rfl) (by kernel_rfl) (by kernel_rfl) (fun _ _ _ h => h) (Or.inl ⟨by rfl, ?y30⟩) (by assumption) ?r30
                        case y30 =>
                          intro w' hSw
                          go_split_ands
                          go_simp
                          try with_reducible rfl
                        try simp only [List.getElem_toArray, List.getElem_cons_zero, List.getElem_cons_succ, Act.put, List.setIfInBounds_toArray, List.set_cons_zero, List.set_cons_succ]
                        refine wpAnyH_done (by kernel_rfl) ?_ _
                        go_wp2_with fail
                        go_meet
                        exact ⟨rfl, Lib.hid ⟨q1, s1, o1, d1, HP1.out.below HBb.out⟩, Lib.hid (HWd.out.trans (HBb.out.mono HWd.out.size))⟩
                  · go_simp
                    refine hK.out _ _ (HKR.out _ HF1.out) (fun hHeld' => ?_)
                    clear hHeld hK K
                    have hHeld := hHeld'
                    clear hHeld'
                    try simp only [List.getElem_toArray, List.getElem_cons_zero, List.getElem_cons_succ, Act.put, List.setIfInBounds_toArray, List.set_cons_zero, List.set_cons_succ]
                    refine wpAnyH_ready (rs := [9, 18]) (by kernel_rfl) (by simp) ?_
                    refine (AllReadyH.cons (i := 9) rfl (fun K hK => ?_) (AllReadyH.cons (i := 18) rfl (fun K hK => ?_) AllReadyH.nil))
                    · go_simp
                      go_at_call 17
                      (with_reducible refine Calls.mono HBY.out ?_)
                      rintro e wb ⟨vb, rfl, ho, hb⟩
                      obtain ⟨ab, cb, rfl⟩ := ho.sl.len
                      have k1 := conv_any ho.sl
                      have k2b := conv_any (HA1.out.sl.below hb (Nat.le_refl _))
                      have c1b := (hb.cell (p := ⟨P, 1, none⟩) HP1.out.lt).trans HP1.out.c1
                      have r0b := (hb.cell (p := ⟨r, 0, none⟩) HA1.out.ltr).trans HA1.out.c0
                      have HBb := Lib.hid hb
                      clear ho hb
                      refine hK.out _ _ (HKR.out _ (HF1.out.trans (Fr.ofBelow HBb.out))) (fun hHeld' => ?_)
                      clear hHeld hK K
                      have hHeld := hHeld'
                      clear hHeld'
                      try simp only [List.getElem_toArray, List.getElem_cons_zero, List.getElem_cons_succ, Act.put, List.setIfInBounds_toArray, List.set_cons_zero, List.set_cons_succ]
                      refine wpAnyH_ready (rs := [10, 18]) (by kernel_rfl) (by simp) ?_
                      refine (AllReadyH.cons (i := 10) rfl (fun K hK => ?_) (AllReadyH.cons (i := 18) rfl (fun K hK => ?_) AllReadyH.nil))
                      · go_simp
                        refine hK.out _ _ (HKR.out _ (HF1.out.trans (Fr.ofBelow HBb.out))) (fun hHeld' => ?_)
                        clear hHeld hK K
                        have hHeld := hHeld'
                        clear hHeld'
                        try simp only [List.getElem_toArray, List.getElem_cons_zero, List.getElem_cons_succ, Act.put, List.setIfInBounds_toArray, List.set_cons_zero, List.set_cons_succ]
                        refine wpAnyH_ready (rs := [18]) (by kernel_rfl) (by simp) ?_
                        refine AllReadyH.cons (i := 18) rfl (fun K hK => ?_) AllReadyH.nil
                        go_simp
                        refine hK.out _ _ (HKR.out _ (HF1.out.trans (Fr.ofBelow HBb.out))) (fun hHeld' => ?_)
                        clear hHeld hK K
                        have hHeld := hHeld'
                        clear hHeld'
                        try simp only [List.getElem_toArray, List.getElem_cons_zero, List.getElem_cons_succ, Act.put, List.setIfInBounds_toArray, List.set_cons_zero, List.set_cons_succ]
                        refine wpAnyH_take (i := 19) (v := ?v31) rfl (by kernel_rfl) (by kernel_rfl) (by kernel_rfl) (fun _ _ _ h => h) (Or.inl ⟨by rfl, ?y31⟩) (by assumption) ?r31
                        case y31 =>
                          intro w' hSw
                          go_split_ands
                          go_simp
                          try with_reducible rfl
                        try simp only [List.getElem_toArray, List.getElem_cons_zero, List.getElem_cons_succ, Act.put, List.setIfInBounds_toArray, List.set_cons_zero, List.set_cons_succ]
                        refine wpAnyH_take (i := 20) (v := ?v32) rfl (by kernel_rfl) (by kernel_rfl) (by kernel_rfl) (fun _ _ _ h => h) (Or.inl ⟨by rfl, ?y32⟩) (by assumption) ?r32
                        case y32 =>
                          intro w' hSw
                          go_split_ands
                          go_simp
                          try with_reducible rfl
                        try simp only [List.getElem_toArray, List.getElem_cons_zero, List.getElem_cons_succ, Act.put, List.setIfInBounds_toArray, List.set_cons_zero, List.set_cons_succ]
                        refine wpAnyH_done (by kernel_rfl) ?_ _
                        go_wp2_with fail
                        go_meet
                        exact ⟨rfl, Lib.hid ⟨q1, s1, o1, d1, HP1.out.below HBb.out⟩, Lib.hid (HWd.out.trans (HBb.out.mono HWd.out.size))⟩
                      · go_simp
                        refine hK.out _ _ (HKR.out _ (HF1.out.trans (Fr.ofBelow HBb.out))) (fun hHeld' => ?_)
                        clear hHeld hK K
                        have hHeld := hHeld'
                        clear hHeld'
                        try simp only [List.getElem_toArray, List.getElem_cons_zero, List.getElem_cons_succ, Act.put, List.setIfInBounds_toArray, List.set_cons_zero, List.set_cons_succ]
                        refine wpAnyH_ready (rs := [10]) (by kernel_rfl) (by simp) ?_
                        refine AllReadyH.cons (i := 10) rfl (fun K hK => ?_) AllReadyH.nil
                        go_simp
                        refine hK.out _ _ (HKR.out _ (HF1.out.trans (Fr.ofBelow HBb.out))) (fun hHeld' => ?_)
                        clear hHeld hK K
                        have hHeld := hHeld'
                        clear hHeld'
                        try simp only [List.getElem_toArray, List.getElem_cons_zero, List.getElem_cons_succ, Act.put, List.setIfInBounds_toArray, List.set_cons_zero, List.set_cons_succ]
                        refine wpAnyH_take (i := 19) (v := ?v33) rfl (by kernel_rfl) (by kernel_rfl) (by kernel_rfl) (fun _ _ _ h => h) (Or.inl ⟨by rfl, ?y33⟩) (by assumption) ?r33
                        case y33 =>
                          intro w' hSw
                          go_split_ands
                          go_simp
                          try with_reducible rfl
                        try simp only [List.getElem_toArray, List.getElem_cons_zero, List.getElem_cons_succ, Act.put, List.setIfInBounds_toArray, List.set_cons_zero, List.set_cons_succ]
                        refine wpAnyH_take (i := 20) (v := ?v34) rfl (by kernel_rfl) (by kernel_rfl) (by kernel_rfl) (fun _ _ _ h => h) (Or.inl ⟨by rfl, ?y34⟩) (by assumption) ?r34
                        case y34 =>
                          intro w' hSw
                          go_split_ands
                          go_simp
                          try with_reducible rfl
                        try simp only [List.getElem_toArray, List.getElem_cons_zero, List.getElem_cons_succ, Act.put, List.setIfInBounds_toArray, List.set_cons_zero, List.set_cons_succ]
                        refine wpAnyH_done (by kernel_rfl) ?_ _
                        go_wp2_with fail
                        go_meet
                        exact ⟨rfl, Lib.hid ⟨q1, s1, o1, d1, HP1.out.below HBb.out⟩, Lib.hid (HWd.out.trans (HBb.out.mono HWd.out.size))⟩
                    · go_simp
                      refine hK.out _ _ (HKR.out _ HF1.out) (fun hHeld' => ?_)
                      clear hHeld hK K
                      have hHeld := hHeld'
                      clear hHeld'
                      try simp only [List.getElem_toArray, List.getElem_cons_zero, List.getElem_cons_succ, Act.put, List.setIfInBounds_toArray, List.set_cons_zero, List.set_cons_succ]
                      refine wpAnyH_ready (rs := [9]) (by kernel_rfl) (by simp) ?_
                      refine AllReadyH.cons (i := 9) rfl (fun K hK => ?_) AllReadyH.nil
                      go_simp
                      go_at_call 17
                      (with_reducible refine Calls.mono HBY.out ?_)
                      rintro e wb ⟨vb, rfl, ho, hb⟩
                      obtain ⟨ab, cb, rfl⟩ := ho.sl.len
                      have k1 := conv_any ho.sl
                      have k2b := conv_any (HA1.out.sl.below hb (Nat.le_refl _))
                      have c1b := (hb.cell (p := ⟨P, 1, none⟩) HP1.out.lt).trans HP1.out.c1
                      have r0b := (hb.cell (p := ⟨r, 0, none⟩) HA1.out.ltr).trans HA1.out.c0
                      have HBb := Lib.hid hb
                      clear ho hb
                      refine hK.out _ _ (HKR.out _ (HF1.out.trans (Fr.ofBelow HBb.out))) (fun hHeld' => ?_)
                      clear hHeld hK K
                      have hHeld := hHeld'
                      clear hHeld'
                      try simp only [List.getElem_toArray, List.getElem_cons_zero, List.getElem_cons_succ, Act.put, List.setIfInBounds_toArray, List.set_cons_zero, List.set_cons_succ]
                      refine wpAnyH_ready (rs := [10]) (by kernel_rfl) (by simp) ?_
                      refine AllReadyH.cons (i := 10) rfl (fun K hK => ?_) AllReadyH.nil
                      go_simp
                      refine hK.out _ _ (HKR.out _ (HF1.out.trans (Fr.ofBelow HBb.out))) (fun hHeld' => ?_)
                      clear hHeld hK K
                      have hHeld := hHeld'
                      clear hHeld'
                      try simp only [List.getElem_toArray, List.getElem_cons_zero, List.getElem_cons_succ, Act.put, List.setIfInBounds_toArray, List.set_cons_zero, List.set_cons_succ]
                      refine wpAnyH_take (i := 19) (v := ?v35) rfl (by kernel_rfl) (by kernel_rfl) (by kernel_rfl) (fun _ _ _ h => h) (Or.inl ⟨by rfl, ?y35⟩) (by assumption) ?r35
                      case y35 =>
                        intro w' hSw
                        go_split_ands
                        go_simp
                        try with_reducible rfl
                      try simp only [List.getElem_toArray, List.getElem_cons_zero, List.getElem_cons_succ, Act.put, List.setIfInBounds_toArray, List.set_cons_zero, List.set_cons_succ]
                      refine wpAnyH_take (i := 20) (v := ?v36) rfl (by kernel_rfl) (by kernel_rfl) (by kernel_rfl) (fun _ _ _ h => h) (Or.inl ⟨by rfl, ?y36⟩) (by assumption) ?r36
                      case y36 =>
                        intro w' hSw
                        go_split_ands
                        go_simp
                        try with_reducible rfl
                      try simp only [List.getElem_toArray, List.getElem_cons_zero, List.getElem_cons_succ, Act.put, List.setIfInBounds_toArray, List.set_cons_zero, List.set_cons_succ]
                      refine wpAnyH_done (by kernel_rfl) ?_ _
                      go_wp2_with fail
                      go_meet
                      exact ⟨rfl, Lib.hid ⟨q1, s1, o1, d1, HP1.out.below HBb.out⟩, Lib.hid (HWd.out.trans (HBb.out.mono HWd.out.size))⟩
                -- REG L END
                -- END L
              case rest =>
                obtain ⟨rfl, HX2, HW2⟩ := hcut
                obtain ⟨w5, rfl⟩ : ∃ x, x = wc := ⟨_, rfl⟩
                obtain ⟨q5, s5, o5, d5, hP5⟩ := HX2.out
                clear hrr HSX HVX HDO HAI HKR HBL
                cases o5 with
                | none =>
                  skip
                  -- ARM o
                  have c3 : w5.cell? ⟨P, 3, none⟩ = some (.pointer none) := hP5.c3
                  clear hP5
                  go_upto_region 14 with fail
                  go_quiet (fail)
                  go_wp2
                  rw [wrap64_small k (by have := HN30.out; omega)]
                  exact ⟨⟨k + 1, hlt, rfl, Lib.hid (by obtain ⟨q5, s5, o5, d5, hP5⟩ := HX2.out; exact ⟨q5, s5, o5, d5, hP5.drewN _⟩), Lib.hid (Below.drewN HW2.out _)⟩, down_one n k hlt⟩
                  -- END o
                | some l5 =>
                  have c3 : w5.cell? ⟨P, 3, none⟩ = some (.pointer (some ⟨s5, 0, none⟩)) := hP5.c3
                  have c2 : w5.cell? ⟨P, 2, none⟩ = some (.pointer (some ⟨q5, 0, none⟩)) := hP5.c2
                  obtain ⟨vt, ct, hst, htl, hsl⟩ := rp_texts hP5.duo (PP.part _ _ _ _ _)
                  have HAL := Lib.hid (show Calls Try.prog 32 #[.pointer (some ⟨q5, 0, none⟩)] w5.drew _ from pp_all (hP5.duo.drewN (PP.part _ _ _ _ _) (RP.part _ _ _ _ _) 1) (RP.part _ _ _ _ _))
                  have HST := Lib.hid (And.intro hst htl)
                  have HPL := Lib.hid (And.intro hP5.lt hsl)
                  have HCC := Lib.hid (And.intro c2 (And.intro c3 ct))
                  clear hP5 hst htl hsl
                  go_upto_region 14 with fail
                  go_cut [118] (fun s118 wx => s118 = .bool false ∧ Hid (Below w5.heap.size w5 wx))
                  case first =>
                    skip
                    -- ARM p
                    have HK4 := Lib.hid (fun (w' : World) (hb : Below w5.heap.size w5 w') => And.intro ((hb.cell (p := ⟨P, 2, none⟩) HPL.out.1).trans HCC.out.1) (And.intro ((hb.cell (p := ⟨P, 3, none⟩) HPL.out.1).trans HCC.out.2.1) ((hb.cell (p := ⟨s5, 3, none⟩) HPL.out.2).trans HCC.out.2.2)))
                    go_region_held3 (fun w' => w'.cell? ⟨P, 2, none⟩ = some (.pointer (some ⟨q5, 0, none⟩)) ∧ w'.cell? ⟨P, 3, none⟩ = some (.pointer (some ⟨s5, 0, none⟩)) ∧ w'.cell? ⟨s5, 3, none⟩ = some vt) (first | exact HK4.out _ HBb.out | exact HK4.out _ HBa.out | exact ⟨by assumption, by assumption, by assumption⟩) (first
                      | (go_at_call 32; refine Calls.mono HAL.out ?_; rintro e wa ⟨va, rfl, hsa, hb⟩; have HBa := Lib.hid (show Below w5.heap.size w5 wa from below_undrew hb); have HSM := Lib.hid (same_self _ _ _ wa hsa (HST.out.1.below HBa.out (Nat.le_refl _)) HST.out.2); clear hsa hb)
                      | (go_at_call 38; (with_reducible refine Calls.mono HSM.out ?_); rintro e wb ⟨rfl, hb⟩; have HBb := Lib.hid (HBa.out.trans (hb.mono HBa.out.size)); clear hb))
                    all_goals (go_wp2_with fail; go_meet)
                    all_goals exact ⟨rfl, HBb⟩
                    -- END p
                  case rest =>
                    obtain ⟨rfl, HB6⟩ := hcut
                    -- ARM u
                    go_wp2
                    rw [wrap64_small k (by have := HN30.out; omega)]
                    exact ⟨⟨k + 1, hlt, rfl, Lib.hid (by obtain ⟨q5, s5, o5, d5, hP5⟩ := HX2.out; exact ⟨q5, s5, o5, d5, hP5.below HB6.out⟩), Lib.hid (HW2.out.trans (HB6.out.mono HW2.out.size))⟩, down_one n k hlt⟩
                    -- END u
            · obtain rfl : k = n := by omega
              -- ARM z
              go_wp2_with (go_at_call 28; refine (HAW.out _).mono ?_; rintro e w' ⟨rfl, hb⟩; have HB := Lib.hid hb; clear hb)
              go_ret
              exact ⟨rfl, HW.out.trans (HB.out.mono HW.out.size)⟩
              -- END z
end Go.Proofs.Ytdnjjemdnlegdaa
namespace Go.Proofs.Ytdnjjemdnlegdaa
set_option linter.unusedVariables false
set_option linter.unusedSimpArgs false
open Go Go.RowKit Go.WideShapes Go.ChangeShapes

def diskC9 (x0 x1 x2 : Int) : List Value := [.int .i64 x0, .int .i64 x1, .int .i64 x2]
theorem open_disk09 {H : Type} {enc : TypeId × Value → H} {W : World} {fuel : Nat} {cs : List Value} {x : DataW H × List MemPlace} (h : DataW.trod enc Try.prog W 0 (fun _ => true) true fuel 61 cs = some x) :
    ∃ (x0 x1 x2 : Int), cs = diskC9 x0 x1 x2 ∧ (-9223372036854775808 ≤ x0 ∧ x0 ≤ 9223372036854775807) ∧ (-9223372036854775808 ≤ x1 ∧ x1 ≤ 9223372036854775807) ∧ (-9223372036854775808 ≤ x2 ∧ x2 ≤ 9223372036854775807) := by
  obtain ⟨ys, m, _, _, hl, hyl, hf⟩ := DataW.trod_struct Try.underlying61 h
  have k3 : Try.prog.cellsOf 3 = 1 := by kernel_rfl
  have kA : Try.prog.cellsOf 61 = 3 := by kernel_rfl
  rw [kA] at hl
  have g : ∀ i, i < 3 → ∃ y, ys[i]? = some y := fun i hi => ⟨_, List.getElem?_eq_getElem (by rw [hyl]; exact hi)⟩
  obtain ⟨y0, e0⟩ := g 0 (by omega)
  obtain ⟨y1, e1⟩ := g 1 (by omega)
  obtain ⟨y2, e2⟩ := g 2 (by omega)
  have f0 : DataW.trod enc Try.prog W 0 (fun _ => true) true m 3 ((cs.drop 0).take (Try.prog.cellsOf 3)) = ys[0]? := hf 0 _ rfl
  rw [k3, e0] at f0
  have f1 : DataW.trod enc Try.prog W 0 (fun _ => true) true m 3 ((cs.drop 1).take (Try.prog.cellsOf 3)) = ys[1]? := hf 1 _ rfl
  rw [k3, e1] at f1
  have f2 : DataW.trod enc Try.prog W 0 (fun _ => true) true m 3 ((cs.drop 2).take (Try.prog.cellsOf 3)) = ys[2]? := hf 2 _ rfl
  rw [k3, e2] at f2
  obtain ⟨x0, h0, ra, rb⟩ := tr_int Try.underlying3 f0
  obtain ⟨x1, h1, rc, rd⟩ := tr_int Try.underlying3 f1
  obtain ⟨x2, h2, re, rf⟩ := tr_int Try.underlying3 f2
  refine ⟨x0, x1, x2, ?_, ⟨ra, rb⟩, ⟨rc, rd⟩, ⟨re, rf⟩⟩
  have e : cs = cs.drop 0 := rfl
  rw [e, cut_at cs 0 1, cut_at cs (0 + 1) 1, cut_at cs (0 + 1 + 1) 1, h0, h1, h2, List.drop_of_length_le (by omega)]
  rfl
theorem row_slotsPlays {w : World} (x0 x1 x2 : Int) (h0 : -9223372036854775808 ≤ x0 ∧ x0 ≤ 9223372036854775807) (h1 : -9223372036854775808 ≤ x1 ∧ x1 ≤ 9223372036854775807) (h2 : -9223372036854775808 ≤ x2 ∧ x2 ≤ 9223372036854775807) (v1 : Value) (h : ActSl9 w v1) :
    Calls Try.prog 7 #[.agg (diskC9 x0 x1 x2).toArray, v1] w fun e w' => e = .returned (.bool true) ∧ Below w.heap.size w w' := by
  obtain ⟨a1, n1, cap1, rfl, hc1, hm1, hk1⟩ := h
  exact law_slotsPlays x0 x1 x2 h0.1 h2.1 a1 n1 cap1 hk1 hc1 hm1
end Go.Proofs.Ytdnjjemdnlegdaa
namespace Go.Proofs.Ytdnjjemdnlegdaa.rowSlotsPlays
open Go.ChangeShapes Go.WideShapes Go.ChangeAt Go.RowKit
open Go.ChangeMaps (open_string)
set_option linter.unusedVariables false
set_option linter.unusedSimpArgs false

theorem own : ownKnob Try.prog.godebug = none := by kernel_rfl
theorem laidOut : laidOutB Try.prog = true := by kernel_rfl

set_option maxRecDepth 100000 in
theorem lifted (os : Os) (started : os.Started) (H : Type) (enc : TypeId × Value → H) :
    ReturnsInHanded {} Try.checked os 7 .any (Rows.slotsPlaysSpec.pre6 enc Try.prog Try.f7 Rows.slotsPlaysRow.domain false) (Rows.slotsPlaysSpec.post enc Try.prog Try.f7 false true false false) := by
  refine returnsInHanded_of_change (C := Try.checked) own started (by kernel_rfl) Try.func7
    (ChangeSpec.witness6 (enc := enc) (C := Try.checked) false ⟨#[], #[.agg #[.int .i64 0, .int .i64 0, .int .i64 0], .slice none 0 0], []⟩ 8 (by kernel_rfl) (by kernel_rfl) (by kernel_rfl) (by kernel_rfl)) ?_
  intro W base args ds gs before hval0 hW hcnd _
  have hval : ∀ (j : Nat) t v, Try.f7.params[j]? = some t → args[j]? = some v → Value.okWide Try.prog W .any base t v := hval0
  have hW' := hW
  obtain ⟨p, q, hA0, hV, rfl, hfz, hnd⟩ := hW
  have hA : DataW.TrodAll enc Try.prog W 0 (fun _ => true) true Try.f7.params.toList args.toList ds p := hA0
  rw [Try.params7] at hA hval
  obtain ⟨v0, vs0, d0, ds0, p0, q0, hargs, rfl, rfl, h0, r0⟩ := trodAll_cons hA
  obtain ⟨v1, vs1, d1, ds1, p1, q1, rfl, rfl, rfl, h1, r1⟩ := trodAll_cons r0
  obtain ⟨rfl, rfl, rfl⟩ := trodAll_nil r1
  obtain rfl : args = #[v0, v1] := by cases args; simp_all
  obtain ⟨rfl, rfl⟩ := trodVars_none hV
  have k0 := h0
  have lt0 : ∀ x ∈ p0, x.block < W.heap.size := by obtain ⟨m, hm⟩ := k0; exact DataW.trod_lt m _ _ _ hm
  have k1 := h1
  have lt1 : ∀ x ∈ p1, x.block < W.heap.size := by obtain ⟨m, hm⟩ := k1; exact DataW.trod_lt m _ _ _ hm
  obtain ⟨cs0, rfl⟩ := agg_form Try.underlying61 (hval 0 61 v0 rfl rfl)
  obtain ⟨m0, hm0⟩ := h0
  obtain ⟨y0_0, y0_1, y0_2, ecs0, y0_3, y0_4, y0_5⟩ := open_disk09 hm0
  obtain rfl : cs0 = (diskC9 y0_0 y0_1 y0_2).toArray := by rw [← ecs0]; simp [Value.cells]
  have w1 := open_acts09 (hval 1 48 v1 rfl rfl) h1
  clear hA0 hval0
  refine (row_slotsPlays y0_0 y0_1 y0_2 y0_3 y0_4 y0_5 v1 w1).mono fun e W' ⟨he, bel⟩ => ?_
  subst he
  exact ⟨_, rfl, _, _, _, [], _, [], hW', trodAll_mk1 (shut_bool Try.underlying4 _), (trodAll_cons_mk (Below.trod laidOut (by kernel_rfl) (of_decide_eq_true (by kernel_rfl)) k0 bel lt0) (trodAll_cons_mk (Below.trod laidOut (by kernel_rfl) (of_decide_eq_true (by kernel_rfl)) k1 bel lt1) trodAll_mk0)), rfl, bel.frame _, fun h => by cases h⟩

theorem proved : Rows.SlotsPlaysSaid :=
  OpenClaim.holds_of_wide 7 Try.f7 rfl rfl rfl rfl rfl rfl rfl ⟨rfl, rfl, rfl, rfl, rfl⟩ rfl rfl rfl rfl rfl (by kernel_rfl) Try.func7 (by kernel_rfl)
    (of_decide_eq_true (by kernel_rfl)) (by unfold Func.isWrapper; first | (rw [if_pos (by decide +kernel)]; kernel_rfl) | (rw [if_neg (by decide +kernel)]; exact ⟨rfl, rfl⟩))
    (fun os started H enc _ => lifted os started H enc)
end Go.Proofs.Ytdnjjemdnlegdaa.rowSlotsPlays
