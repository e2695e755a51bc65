/-
  A log in memory: Append that is not refused. (Printed by reg/XSloE.py.)
-/
import Derived.Test.YtdnjjemdnlegdaaSloT
import Derived.Deep.RegionLaw
import Derived.StillTailTactics
namespace Go.Proofs.Ytdnjjemdnlegdaa
set_option linter.unusedVariables false
set_option linter.unusedSimpArgs false
open Go Go.RowKit

theorem NewB.kept {B : Nat} {L : List Nat} {w w' : World} {v : Value} {xs : List (BitVec 8)} (h : NewB B w v xs) (hk : Kept L w w') (hl : ∀ k, k ∈ L → k < B) : NewB B w' v xs := by
  obtain ⟨q, rfl, hq, hh⟩ := h
  exact ⟨q, rfl, hq, (hk.block q (Array.getElem?_eq_some_iff.1 hh).1 (fun hm => by have := hl q hm; omega)).trans hh⟩
theorem bytes_laid1 (t : List (BitVec 8)) : (bytes (Slo.laid 0 t)).set! 0 (.int .u8 1) = bytes (Slo.laid 1 t) := by
  unfold Slo.laid bytes
  simp [bv]

theorem cell_new1 (w : World) (x : Value) (t : TypeId) : (w.alloc (.cells #[x] t)).cell? ⟨w.heap.size, 0, none⟩ = some x := by simp
/-- The texts' values are the old ones, or new. -/
def Older (w : World) (vs vs' : List Value) : Prop := ∀ i k, (vs'.getD i undef).ownBlock = some k → (∃ j, (vs.getD j undef).ownBlock = some k) ∨ w.heap.size ≤ k
theorem Older.refl (w : World) (vs : List Value) : Older w vs vs := fun i k e => .inl ⟨i, e⟩
theorem getD_more (vs : List Value) (u : Value) (i : Nat) : (vs ++ [u]).getD i undef = vs.getD i undef ∨ (vs ++ [u]).getD i undef = u := by
  simp only [List.getD]
  by_cases h : i < vs.length
  · exact .inl (by rw [List.getElem?_append_left h])
  · rw [List.getElem?_append_right (by omega)]
    by_cases h2 : i - vs.length = 0
    · exact .inr (by rw [h2]; rfl)
    · exact .inl (by rw [List.getElem?_eq_none (by simp; omega), List.getElem?_eq_none (by omega)])
theorem Older.more {w : World} {vs : List Value} {u : Value} (h : ∀ k, u.ownBlock = some k → w.heap.size ≤ k) : Older w vs (vs ++ [u]) := fun i k e => by
  rcases getD_more vs u i with h1 | h1
  · exact .inl ⟨i, by rw [← h1]; exact e⟩
  · exact .inr (h k (by rw [← h1]; exact e))
/-- What Append does. -/
def AppR (w : World) (q p g : Nat) (vt : Value) (vs : List Value) (l : Slo.L) (d : Dk.D) (t : List (BitVec 8)) (e : Ending) (w' : World) : Prop :=
  e = .returned (.int .i64 (Slo.append d l t).2.2) ∧ DiskAt w' p g (Slo.append d l t).1 ∧
  (∃ vt' vs', LogAt w' q p g vt' vs' (Slo.append d l t).2.1 ∧ (∀ k, vt'.ownBlock = some k → vt.ownBlock = some k ∨ w.heap.size ≤ k) ∧ Older w vs vs') ∧ Kept ([p, g, q] ++ vt.ownBlock.toList) w w'

set_option maxRecDepth 100000 in
set_option maxHeartbeats 8000000 in
theorem slo_append_go {w : World} {q p g : Nat} {vt : Value} {vs : List Value} {l : Slo.L} {d : Dk.D} (h : LogAt w q p g vt vs l) (hD : DiskAt w p g d) (a : Option Addr) (n cap : Nat) (t : List (BitVec 8)) (hs : SlB w (.slice a n cap) t) (htl : t.length = n) (hap : Apart (.slice a n cap) t [p, g, q])
    (hd : l.dead = false) (ho : d.off = false) (hn : n ≤ 262144) (hf : Slo.taken n ≤ l.sectors - l.used) :
    Calls Try.prog 30 #[.pointer (some ⟨q, 0, none⟩), .slice a n cap] w (AppR w q p g vt vs l d t) := by
  have c0 := h.c0
  have c2 := h.c2
  have c4 := h.c4
  have c5 := h.c5
  have hsm := h.small
  have hlq := h.lt
  have hlp := hD.ltp
  have hlg := hD.ltg
  have H := Lib.hid h
  have HD := Lib.hid hD
  have HS := Lib.hid hs
  have HAP := Lib.hid hap
  have HI := Lib.hid (slo_is h)
  have HO := Lib.hid (dk_off hD)
  have HTK := Lib.hid (fun w => (taken_any n (by omega) w).mono (fun e w' (h : _ ∧ w = w') => And.intro h.1 h.2.symm))
  have hll := Slo.laid_length 0 t
  have hll1 := Slo.laid_length 1 t
  rw [htl] at hll hll1
  obtain ⟨M, hM⟩ : ∃ M, 128 * Slo.taken n = M := ⟨_, rfl⟩
  rw [hM] at hll hll1
  have HLA := Lib.hid (fun W (hW : SlB W (.slice a n cap) t) => (show Calls Try.prog 53 #[.slice a n cap] W (fun e w' => ∃ b1, e = .returned (.slice (some ⟨b1, 0, none⟩) M M) ∧ W.heap.size ≤ b1 ∧ w'.heap[b1]? = some (.cells (bytes (Slo.laid 0 t)) 5 (0, 0)) ∧ Below W.heap.size W w') from
    (laid_any t (.slice a n cap) W hW (by omega)).mono (by rintro e w' ⟨v', rfl, ⟨b1, rfl, hb1, hh1⟩, hb⟩; rw [hll]; exact ⟨b1, rfl, hb1, hh1, hb⟩)))
  have HLL := Lib.hid hll
  have HLL1 := Lib.hid hll1
  have HWH := Lib.hid (Slo.whole_length l t)
  have HWD := Lib.hid (show Slo.whole l t = Slo.laid 0 t ++ if l.used + Slo.taken t.length < l.sectors then List.replicate 128 0 else [] from rfl)
  have H01 := Lib.hid (bytes_laid1 t)
  have HB0 := Lib.hid (show (bytes (Slo.laid 0 t))[0]? = some (.int .u8 0) from rfl)
  have HAD := Lib.hid (show Slo.append d l t = _ from by
    unfold Slo.append
    rw [if_neg (by rw [hd, ho]; decide), if_neg (by omega), if_neg (by rw [htl]; omega), htl])
  have HW1 := Lib.hid (fun (wz : World) (v : Value) (xs : List (BitVec 8)) (l' : Slo.L) (d' : Dk.D) (hl' : LogAt wz q p g vt vs l') (hd' : DiskAt wz p g d') (hx : SlB wz v xs) (hxl : xs.length ≤ 1000000) (hxa : Apart v xs [g, p]) => slo_write hl' hd' v xs hx (by omega) hxa)
  generalize Slo.laid 0 t = L0 at HLA HLL HWD H01 HB0 hll
  generalize Slo.laid 1 t = L1 at HLL1 H01 HAD hll1
  generalize Slo.whole l t = W0 at HWH HWD HAD
  obtain ⟨⟨D1, E1⟩, hR⟩ : ∃ R, Dk.write d ((l.from_ + l.used : Nat) : Int) W0 = R := ⟨_, rfl⟩
  rw [hR] at HAD
  obtain ⟨⟨D2, E2⟩, hR2⟩ : ∃ R, Dk.write D1 ((l.from_ + l.used : Nat) : Int) (L1.take 128) = R := ⟨_, rfl⟩
  simp only [hR2] at HAD
  have HR := Lib.hid hR
  have HR2 := Lib.hid hR2
  have hgt := Slo.taken_ge n
  have hut := Slo.taken_le n
  have hpt := Slo.taken_pos n
  rw [hd] at c5
  rw [ho] at HO
  rw [htl] at HWH HWD
  have HTL := Lib.hid htl
  have HDE := Lib.hid hd
  generalize Slo.taken n = tk at HTK hf hM HWH HWD HAD hgt hut hpt
  obtain ⟨S, hS⟩ : ∃ S, l.sectors = S := ⟨_, rfl⟩
  obtain ⟨U, hU⟩ : ∃ U, l.used = U := ⟨_, rfl⟩
  rw [hS] at c2 hf hsm HWH HWD
  rw [hU] at c4 hf hsm HWH HWD
  have q1 : IntKind.i64.wrap ((S : Int) - U) = S - U := by rw [IntKind.wrap_i64]; omega
  have q2 : IntKind.i64.wrap ((U : Int) + tk) = (U : Int) + tk := by rw [IntKind.wrap_i64]; omega
  have h1 : (n : Int) ≤ 262144 := by omega
  have h2 : (tk : Int) ≤ S - U := by omega
  have HM := Lib.hid (show M ≤ 262276 ∧ 128 ≤ M ∧ 128 * tk = M by omega)
  have HPT := Lib.hid hpt
  have HN := Lib.hid hn
  have HLT := Lib.hid (And.intro hlp (And.intro hlg hlq))
  have HQ2 := Lib.hid q2
  have HF := Lib.hid hf
  have HSE := Lib.hid hS
  have HUE := Lib.hid hU
  unfold AppR
  clear h hD hd ho hn hf hs hap htl hgt hut hpt hsm hU hS hll hll1 hM hR hR2
  have HVL := Lib.hid (show vs.length ≤ 1000000 by have h1 := H.out.tx.len; have h2 := H.out.small; omega)
  have hcase : (U : Int) + tk < S ∨ ¬ (U : Int) + tk < S := by omega
  rcases hcase with hc | hc
  · have hcN : U + tk < S ↔ True := by constructor <;> intro <;> first | trivial | omega
    simp only [hcN, if_true, if_false] at HWH HWD
    clear hcN
    go_enter Try.func30, Try.ntmps30
    go_wp2_with (first
      | (go_at_call 51; refine HI.out.mono ?_; rintro e w' ⟨rfl, rfl⟩)
      | (go_at_call 20; refine HO.out.mono ?_; rintro e w' ⟨rfl, rfl⟩))
    go_quiet ((go_at_call 52; with_reducible exact Calls.quiet_of_same (HTK.out _)))
    rename_i n1
    clear HI HO c0 c5
    go_upto_region 11 with (go_at_call 53; refine (HLA.out _ (HS.out.drewN _)).mono ?_; rintro e wl ⟨b1, rfl, hb1, hh1, hbl⟩; have HB1 := Lib.hid (show w.heap.size ≤ b1 from hb1); have HH1 := Lib.hid hh1; have HBL := Lib.hid (show Below w.heap.size w wl from (Below.drewN (Below.refl _ w) _).trans hbl); clear hb1 hh1 hbl)
    have c2 := (H.out.below HBL.out (Nat.le_refl _)).c2
    have c4 := (H.out.below HBL.out (Nat.le_refl _)).c4
    rw [HSE.out] at c2
    rw [HUE.out] at c4
    go_quiet ((go_at_call 52; with_reducible exact Calls.quiet_of_same (HTK.out _)))
    go_upto_region 13 with (first
      | (go_at_call 48; refine (clone_any _ L0 _ (SlB.drewN (sl_row L0 HH1.out HLL.out.symm (by rw [HLL.out]; have := HM.out; omega)) _) (by rw [HLL.out]; have := HM.out; omega)).mono ?_; rintro e wk ⟨vk, rfl, ho, hb⟩; have HOk := Lib.hid ho; have HBk := Lib.hid (show Below wl.heap.size wl wk from (Below.drewN (Below.refl _ wl) _).trans hb); clear ho hb)
      | (at_builtin; refine wpList_append_z rfl (.tmp 60) (.const (.int .i64 128)) 22 3 5 rfl Try.underlying22 Try.underlying3 info_u8 wl.heap.size _ L0 HOk.out (by rw [HLL.out]; have := HM.out; omega) rfl 128 (by decide) rfl (by rw [HLL.out]; have := HM.out; omega) HBk.out.size ?_; intro v6 wz ho hg; have HO6 := Lib.hid ho; have HG6 := Lib.hid hg; clear ho hg))
    have HZl := Lib.hid (show Below wl.heap.size wl wz from HBk.out.grown HG6.out HBk.out.size (fun k e => (World.ownsRow.lt HOk.out k e).1))
    have HZB := Lib.hid (show Below w.heap.size w wz from HBL.out.trans (HZl.out.mono HBL.out.size))
    have HZ1 := Lib.hid ((HZl.out.block b1 (Array.getElem?_eq_some_iff.1 HH1.out).1).trans HH1.out)
    have HZW := Lib.hid (show SlB wz v6 W0 by rw [HWD.out]; exact HO6.out.sl)
    have HZA := Lib.hid (show Apart v6 W0 [g, p] by
      intro _ k hk
      have h1 := (World.ownsRow.lt HO6.out k hk).1
      have h2 := HBL.out.size
      have h3 := HLT.out
      simp; omega)
    clear HO6 HG6 HOk HBk HZl HBL HH1
    clear c2 c4 HLA
    go_upto_region 14 with (go_at_call 54; refine (HW1.out _ _ W0 l d (H.out.below HZB.out (Nat.le_refl _)) (HD.out.below HZB.out (Nat.le_refl _)) HZW.out (by rw [HWH.out]; have := HM.out; omega) HZA.out).mono ?_; rw [HR.out]; rintro e wa ⟨rfl, hDa, hLa, hKa⟩; have HDa := Lib.hid hDa; have HLa := Lib.hid hLa; have HKa := Lib.hid hKa; clear hDa hLa hKa)
    by_cases hr1 : E1 = 0
    · subst hr1
      have hap := HAD.out
      rw [if_neg (by simp)] at hap
      have HAP2 := Lib.hid hap
      clear hap HAD
      have hla : LogAt wa q p g vt vs l := by
        have h3 := HLa.out
        have e : { l with dead := l.dead || decide ((0 : Int) ≠ 0) } = l := by
          have := HDE.out
          cases l
          simp_all
        rw [e] at h3
        exact h3
      have HLa := Lib.hid hla
      clear hla
      have HKw := Lib.hid (show Kept [p, g, q] w wa from (Kept.ofBelow HZB.out (Nat.le_refl _)).trans (HKa.out.mono (by simp)))
      have HHa := Lib.hid ((HKa.out.block b1 (Array.getElem?_eq_some_iff.1 HZ1.out).1 (by have := HB1.out; have := HLT.out; simp; omega)).trans HZ1.out)
      have ce : wa.cell? ⟨b1, 0, none⟩ = some (.int .u8 0) := (cell_of_row wa b1 0 _ _ _ HHa.out).trans HB0.out
      have fe : wa.frozen? ⟨b1, 0, none⟩ = false := frozen_of_row wa b1 0 _ _ HHa.out
      have hm0 : 0 < M := by have := HM.out; omega
      have hm1 : (0 : Int) < M := by omega
      go_upto_region 17 with fail
      clear ce fe
      obtain ⟨wb, hwb⟩ : ∃ wb, wa.setCell ⟨b1, 0, none⟩ (.int .u8 1) = wb := ⟨_, rfl⟩
      rw [hwb]
      have HKb := Lib.hid (show Kept [b1] wa wb by rw [← hwb]; exact (Kept.refl [b1] wa).setCell (by simp) _)
      have HHb := Lib.hid (show wb.heap[b1]? = some (.cells (bytes L1) 5 (0, 0)) by
        rw [← hwb, ← H01.out]; exact heap_setCell_same wa b1 0 _ _ (.int .u8 1) HHa.out)
      have HKv := Lib.hid (show Kept [p, g, q] w wb by rw [← hwb]; exact HKw.out.newCell HB1.out _)
      have hne : p ≠ b1 ∧ g ≠ b1 ∧ q ≠ b1 := by have := HB1.out; have := HLT.out; omega
      have HDb := Lib.hid (HDa.out.kept HKb.out (by simp [hne]) (by simp [hne]))
      have HLb := Lib.hid (show LogAt wb q p g vt vs l from ⟨(HKb.out.block q HLa.out.lt (by simp [hne])).trans HLa.out.row, HLa.out.ne, H.out.tx.kept HKv.out (by simp), HLa.out.small⟩)
      have HWb := Lib.hid (show SlB wb (.slice (some ⟨b1, 0, none⟩) 128 M) (L1.take 128) from (sl_row L1 HHb.out HLL1.out.symm (by rw [HLL1.out]; have := HM.out; omega)).take 128 (by have := HM.out; omega))
      have HWa := Lib.hid (show Apart (.slice (some ⟨b1, 0, none⟩) 128 M) (L1.take 128) [g, p] by
        intro _ k hk
        simp only [Value.ownBlock, Option.some.injEq] at hk
        subst hk
        simp [Ne.symm hne.1, Ne.symm hne.2.1])
      have hm128 : 128 ≤ M := by have := HM.out; omega
      have hm129 : (128 : Int) ≤ M := by omega
      clear hwb HKb HHa HLa HDa HKa HKw
      go_upto_region 18 with (go_at_call 54; refine (HW1.out _ _ (L1.take 128) l D1 HLb.out HDb.out HWb.out (by rw [List.length_take]; omega) HWa.out).mono ?_; rw [HR2.out]; rintro e wq ⟨rfl, hDc, hLc, hKc⟩; have HDc := Lib.hid hDc; have HLc := Lib.hid hLc; have HKc := Lib.hid hKc; clear hDc hLc hKc)
      by_cases hr2 : E2 = 0
      · subst hr2
        have hap := HAP2.out
        rw [if_neg (by simp)] at hap
        have HAP3 := Lib.hid hap
        clear hap HAP2
        have hlc : LogAt wq q p g vt vs l := by
          have h3 := HLc.out
          have e : { l with dead := l.dead || decide ((0 : Int) ≠ 0) } = l := by
            have := HDE.out
            cases l
            simp_all
          rw [e] at h3
          exact h3
        have HLc := Lib.hid hlc
        clear hlc
        have HKc := Lib.hid (show Kept [p, g, q] w wq from HKv.out.trans HKc.out)
        have HSc := Lib.hid (show SlB wq (.slice a n cap) t by
          by_cases h0 : t = []
          · rcases HS.out with h | ⟨b, off, cap', e, k1, k2, k3, k4⟩
            · exact .inl h
            · exact .inr ⟨b, off, cap', e, k1, k2, Nat.lt_of_lt_of_le k3 HKc.out.size, fun j hj => absurd hj (by rw [h0]; simp)⟩
          · exact HS.out.keptV HKc.out (fun k hk hm => HAP.out h0 k hk hm))
        have c3 := HLc.out.c3
        have HTX := Lib.hid HLc.out.tx
        have hvt : ∀ k, vt.ownBlock = some k → k < wq.heap.size := fun k e => (World.ownsRow.lt HTX.out.own k e).2
        have HQV := Lib.hid (show ∀ k, vt.ownBlock = some k → k ≠ q from fun k e h => HTX.out.out k e (by simp [h]))
        have HVT := Lib.hid hvt
        clear hvt
        go_upto_region 20 with fail
        clear HLb HDb HWb HWa HHb HZA HZW HZ1 HZB HKv HW1 hm0 hm1 hm128 hm129 h1 h2 hc q1 q2
        go_cut [4] (fun s wx => s = .int .i64 0 ∧ ∃ v2 vs2, Hid (wx.heap[q]? = some (.cells (lcells p v2 l) 75 (0, 0))) ∧ Hid (Tx wx v2 (l.texts ++ [t]) vs2 [p, g, q]) ∧ Hid (∀ k, v2.ownBlock = some k → vt.ownBlock = some k ∨ wq.heap.size ≤ k) ∧ Hid (Kept ([q] ++ vt.ownBlock.toList) wq wx) ∧ Hid (Older wq vs vs2))
        case first =>
          go_region_law (first
            | (refine any_of_list (by rfl) (fun Q' hQ' => ?_); (try simp only [List.getElem_toArray, List.getElem_cons_zero, List.getElem_cons_succ]); refine wpList_append_l1 rfl (.tmp 81) (.tmp 84) 47 22 rfl Try.underlying47 info_sl vt vs ((show OwnL 22 0 wd vt vs from HTX.out.own.below HBd.out (Nat.le_refl _)).alloc _) (by simp [Act.eval, Act.put]) wd.heap.size (.slice a2 t.length cp2) (by simp [Act.eval, Act.put]) (cell_new1 _ _ _) rfl HVL.out ?_; intro v2 w2 ho hg hat; obtain ⟨g2, cp3, rfl⟩ := ho.form1; have HO2 := Lib.hid ho; have HG2 := Lib.hid hg; have HAT := Lib.hid hat; have c3f : w2.cell? ⟨q, 3, none⟩ = some vt := cell_of_row w2 q 3 _ _ _ (app_row HLc.out HBd.out hg); have f3f : w2.frozen? ⟨q, 3, none⟩ = false := frozen_of_row w2 q 3 _ _ (app_row HLc.out HBd.out hg); clear ho hg hat; refine hQ' _ _ ?_; clear hQ' Q')
            | (go_simp; go_at_call 48; refine (clone_any _ t _ HSc.out.drew (by rw [HTL.out]; have := HN.out; omega)).mono ?_; rintro e wd ⟨vd, rfl, ho, hb⟩; obtain ⟨a2, cp2, rfl⟩ := ho.sl.len; have c3d : wd.cell? ⟨q, 3, none⟩ = some vt := (hb.cell (p := ⟨q, 3, none⟩) HLc.out.lt).trans c3; have c3g : ∀ o, (wd.alloc o).cell? ⟨q, 3, none⟩ = some vt := fun o => (((Below.refl wd.heap.size wd).alloc (Nat.le_refl _) o).cell (p := ⟨q, 3, none⟩) (Nat.lt_of_lt_of_le HLc.out.lt hb.size)).trans c3d; have HOd := Lib.hid (show OwnB 5 wq.heap.size wd _ t from ho); have HBd := Lib.hid (show Below wq.heap.size wq wd from (Below.drew (Below.refl _ wq)).trans hb); clear ho hb))
          all_goals (go_wp2_with fail; go_meet)
          all_goals
            have hE := app_end HLc.out (Nat.lt_of_lt_of_le HLT.out.1 HKc.out.size) (Nat.lt_of_lt_of_le HLT.out.2.1 HKc.out.size) HOd.out HBd.out HG2.out HO2.out HAT.out
            exact ⟨rfl, _, _, Lib.hid hE.1, Lib.hid hE.2.1, Lib.hid hE.2.2.1, Lib.hid hE.2.2.2, Lib.hid (Older.more fun k e => (World.ownsRow.lt HOd.out k e).1)⟩
        case rest =>
          obtain ⟨rfl, v2, vs2, HRx, HTx, HVx, HKx, HOLx⟩ := hcut
          have c4 : wc.cell? ⟨q, 4, none⟩ = some (.int .i64 (U : Int)) := by rw [← HUE.out]; exact cell_of_row wc q 4 _ _ _ HRx.out
          have f4 : wc.frozen? ⟨q, 4, none⟩ = false := frozen_of_row wc q 4 _ _ HRx.out
          have q2 := HQ2.out
          have hti : ∀ W, Calls Try.prog 52 #[.int .i64 (n : Int)] W fun e w' => e = .returned (.int .i64 (tk : Int)) ∧ w' = W := HTK.out
          go_upto_region 21 with fail
          go_still_tail 10, (by kernel_rfl)
          still_call (hti _)
          repeat still_step
          refine wpStill_nil ?_
          go_wp2
          go_ret
          rw [HAP3.out]
          have hq1 := HLc.out.ne
          have hpk : p ∉ [q] ++ vt.ownBlock.toList := by
            simp only [List.mem_append, List.mem_singleton, Option.mem_toList, not_or]
            exact ⟨Ne.symm hq1.1, fun h => HTX.out.out p h (by simp)⟩
          have hgk : g ∉ [q] ++ vt.ownBlock.toList := by
            simp only [List.mem_append, List.mem_singleton, Option.mem_toList, not_or]
            exact ⟨Ne.symm hq1.2, fun h => HTX.out.out g h (by simp)⟩
          refine ⟨rfl, ((HDc.out.kept HKx.out hpk hgk).kept ((Kept.refl [q] wc).setCell (by simp) _) (by simp [Ne.symm hq1.1]) (by simp [Ne.symm hq1.2])).drew, ⟨v2, vs2, app_fin HRx.out HTx.out hq1 HLc.out.small U tk HUE.out (by rw [HSE.out]; exact HF.out) HPT.out, fun k hk => ?_, fun i k e => (HOLx.out i k e).imp id (Nat.le_trans HKc.out.size)⟩, ?_⟩
          · rcases HVx.out k hk with h5 | h5
            · exact .inl h5
            · exact .inr (Nat.le_trans HKc.out.size h5)
          · exact ((HKc.out.mono (by intro k hk; simp at hk ⊢; rcases hk with h | h | h <;> simp [h])).trans (HKx.out.mono (by intro k hk; simp at hk ⊢; rcases hk with h | h <;> simp [h]))).trans (((Kept.refl _ wc).setCell (by simp) _).drew)
      · go_wp2
        go_ret
        have hap := HAP2.out
        rw [if_pos hr2] at hap
        rw [hap]
        refine ⟨rfl, HDc.out, ⟨vt, vs, ?_, fun k hk => .inl hk, Older.refl _ _⟩, (HKv.out.mono (by simp)).trans (HKc.out.mono (by simp))⟩
        have h3 := HLc.out
        simp only [hr2, ne_eq, not_false_eq_true, decide_true, Bool.or_true] at h3
        exact h3
    · go_wp2
      go_ret
      have hap := HAD.out
      rw [if_pos hr1] at hap
      rw [hap]
      refine ⟨rfl, HDa.out, ⟨vt, vs, ?_, fun k hk => .inl hk, Older.refl _ _⟩, ((Kept.ofBelow HZB.out (Nat.le_refl _)).trans (HKa.out.mono (by simp)))⟩
      have h3 := HLa.out
      simp only [hr1, ne_eq, not_false_eq_true, decide_true, Bool.or_true] at h3
      exact h3
  · have hcN : U + tk < S ↔ False := by constructor <;> intro <;> first | trivial | omega
    simp only [hcN, if_true, if_false] at HWH HWD
    clear hcN
    go_enter Try.func30, Try.ntmps30
    go_wp2_with (first
      | (go_at_call 51; refine HI.out.mono ?_; rintro e w' ⟨rfl, rfl⟩)
      | (go_at_call 20; refine HO.out.mono ?_; rintro e w' ⟨rfl, rfl⟩))
    go_quiet ((go_at_call 52; with_reducible exact Calls.quiet_of_same (HTK.out _)))
    rename_i n1
    clear HI HO c0 c5
    go_upto_region 11 with (go_at_call 53; refine (HLA.out _ (HS.out.drewN _)).mono ?_; rintro e wl ⟨b1, rfl, hb1, hh1, hbl⟩; have HB1 := Lib.hid (show w.heap.size ≤ b1 from hb1); have HH1 := Lib.hid hh1; have HBL := Lib.hid (show Below w.heap.size w wl from (Below.drewN (Below.refl _ w) _).trans hbl); clear hb1 hh1 hbl)
    have c2 := (H.out.below HBL.out (Nat.le_refl _)).c2
    have c4 := (H.out.below HBL.out (Nat.le_refl _)).c4
    rw [HSE.out] at c2
    rw [HUE.out] at c4
    go_quiet ((go_at_call 52; with_reducible exact Calls.quiet_of_same (HTK.out _)))
    go_upto_region 13 with fail
    obtain ⟨wz, hwz⟩ : ∃ wz, wl.drewN nq = wz := ⟨_, rfl⟩
    rw [hwz]
    have HZB := Lib.hid (show Below w.heap.size w wz by rw [← hwz]; exact Below.drewN HBL.out _)
    have HZ1 := Lib.hid (show wz.heap[b1]? = some (.cells (bytes L0) 5 (0, 0)) by rw [← hwz]; exact HH1.out)
    have HZW := Lib.hid (show SlB wz (.slice (some ⟨b1, 0, none⟩) M M) W0 by rw [HWD.out, List.append_nil]; exact sl_row L0 HZ1.out HLL.out.symm (by rw [HLL.out]; have := HM.out; omega))
    have HZA := Lib.hid (show Apart (.slice (some ⟨b1, 0, none⟩) M M) W0 [g, p] by
      intro _ k hk
      have h1 := HB1.out
      have h3 := HLT.out
      simp only [Value.ownBlock, Option.some.injEq] at hk
      subst hk
      simp; omega)
    clear HBL HH1 hwz
    clear c2 c4 HLA
    go_upto_region 14 with (go_at_call 54; refine (HW1.out _ _ W0 l d (H.out.below HZB.out (Nat.le_refl _)) (HD.out.below HZB.out (Nat.le_refl _)) HZW.out (by rw [HWH.out]; have := HM.out; omega) HZA.out).mono ?_; rw [HR.out]; rintro e wa ⟨rfl, hDa, hLa, hKa⟩; have HDa := Lib.hid hDa; have HLa := Lib.hid hLa; have HKa := Lib.hid hKa; clear hDa hLa hKa)
    by_cases hr1 : E1 = 0
    · subst hr1
      have hap := HAD.out
      rw [if_neg (by simp)] at hap
      have HAP2 := Lib.hid hap
      clear hap HAD
      have hla : LogAt wa q p g vt vs l := by
        have h3 := HLa.out
        have e : { l with dead := l.dead || decide ((0 : Int) ≠ 0) } = l := by
          have := HDE.out
          cases l
          simp_all
        rw [e] at h3
        exact h3
      have HLa := Lib.hid hla
      clear hla
      have HKw := Lib.hid (show Kept [p, g, q] w wa from (Kept.ofBelow HZB.out (Nat.le_refl _)).trans (HKa.out.mono (by simp)))
      have HHa := Lib.hid ((HKa.out.block b1 (Array.getElem?_eq_some_iff.1 HZ1.out).1 (by have := HB1.out; have := HLT.out; simp; omega)).trans HZ1.out)
      have ce : wa.cell? ⟨b1, 0, none⟩ = some (.int .u8 0) := (cell_of_row wa b1 0 _ _ _ HHa.out).trans HB0.out
      have fe : wa.frozen? ⟨b1, 0, none⟩ = false := frozen_of_row wa b1 0 _ _ HHa.out
      have hm0 : 0 < M := by have := HM.out; omega
      have hm1 : (0 : Int) < M := by omega
      go_upto_region 17 with fail
      clear ce fe
      obtain ⟨wb, hwb⟩ : ∃ wb, wa.setCell ⟨b1, 0, none⟩ (.int .u8 1) = wb := ⟨_, rfl⟩
      rw [hwb]
      have HKb := Lib.hid (show Kept [b1] wa wb by rw [← hwb]; exact (Kept.refl [b1] wa).setCell (by simp) _)
      have HHb := Lib.hid (show wb.heap[b1]? = some (.cells (bytes L1) 5 (0, 0)) by
        rw [← hwb, ← H01.out]; exact heap_setCell_same wa b1 0 _ _ (.int .u8 1) HHa.out)
      have HKv := Lib.hid (show Kept [p, g, q] w wb by rw [← hwb]; exact HKw.out.newCell HB1.out _)
      have hne : p ≠ b1 ∧ g ≠ b1 ∧ q ≠ b1 := by have := HB1.out; have := HLT.out; omega
      have HDb := Lib.hid (HDa.out.kept HKb.out (by simp [hne]) (by simp [hne]))
      have HLb := Lib.hid (show LogAt wb q p g vt vs l from ⟨(HKb.out.block q HLa.out.lt (by simp [hne])).trans HLa.out.row, HLa.out.ne, H.out.tx.kept HKv.out (by simp), HLa.out.small⟩)
      have HWb := Lib.hid (show SlB wb (.slice (some ⟨b1, 0, none⟩) 128 M) (L1.take 128) from (sl_row L1 HHb.out HLL1.out.symm (by rw [HLL1.out]; have := HM.out; omega)).take 128 (by have := HM.out; omega))
      have HWa := Lib.hid (show Apart (.slice (some ⟨b1, 0, none⟩) 128 M) (L1.take 128) [g, p] by
        intro _ k hk
        simp only [Value.ownBlock, Option.some.injEq] at hk
        subst hk
        simp [Ne.symm hne.1, Ne.symm hne.2.1])
      have hm128 : 128 ≤ M := by have := HM.out; omega
      have hm129 : (128 : Int) ≤ M := by omega
      clear hwb HKb HHa HLa HDa HKa HKw
      go_upto_region 18 with (go_at_call 54; refine (HW1.out _ _ (L1.take 128) l D1 HLb.out HDb.out HWb.out (by rw [List.length_take]; omega) HWa.out).mono ?_; rw [HR2.out]; rintro e wq ⟨rfl, hDc, hLc, hKc⟩; have HDc := Lib.hid hDc; have HLc := Lib.hid hLc; have HKc := Lib.hid hKc; clear hDc hLc hKc)
      by_cases hr2 : E2 = 0
      · subst hr2
        have hap := HAP2.out
        rw [if_neg (by simp)] at hap
        have HAP3 := Lib.hid hap
        clear hap HAP2
        have hlc : LogAt wq q p g vt vs l := by
          have h3 := HLc.out
          have e : { l with dead := l.dead || decide ((0 : Int) ≠ 0) } = l := by
            have := HDE.out
            cases l
            simp_all
          rw [e] at h3
          exact h3
        have HLc := Lib.hid hlc
        clear hlc
        have HKc := Lib.hid (show Kept [p, g, q] w wq from HKv.out.trans HKc.out)
        have HSc := Lib.hid (show SlB wq (.slice a n cap) t by
          by_cases h0 : t = []
          · rcases HS.out with h | ⟨b, off, cap', e, k1, k2, k3, k4⟩
            · exact .inl h
            · exact .inr ⟨b, off, cap', e, k1, k2, Nat.lt_of_lt_of_le k3 HKc.out.size, fun j hj => absurd hj (by rw [h0]; simp)⟩
          · exact HS.out.keptV HKc.out (fun k hk hm => HAP.out h0 k hk hm))
        have c3 := HLc.out.c3
        have HTX := Lib.hid HLc.out.tx
        have hvt : ∀ k, vt.ownBlock = some k → k < wq.heap.size := fun k e => (World.ownsRow.lt HTX.out.own k e).2
        have HQV := Lib.hid (show ∀ k, vt.ownBlock = some k → k ≠ q from fun k e h => HTX.out.out k e (by simp [h]))
        have HVT := Lib.hid hvt
        clear hvt
        go_upto_region 20 with fail
        clear HLb HDb HWb HWa HHb HZA HZW HZ1 HZB HKv HW1 hm0 hm1 hm128 hm129 h1 h2 hc q1 q2
        go_cut [4] (fun s wx => s = .int .i64 0 ∧ ∃ v2 vs2, Hid (wx.heap[q]? = some (.cells (lcells p v2 l) 75 (0, 0))) ∧ Hid (Tx wx v2 (l.texts ++ [t]) vs2 [p, g, q]) ∧ Hid (∀ k, v2.ownBlock = some k → vt.ownBlock = some k ∨ wq.heap.size ≤ k) ∧ Hid (Kept ([q] ++ vt.ownBlock.toList) wq wx) ∧ Hid (Older wq vs vs2))
        case first =>
          go_region_law (first
            | (refine any_of_list (by rfl) (fun Q' hQ' => ?_); (try simp only [List.getElem_toArray, List.getElem_cons_zero, List.getElem_cons_succ]); refine wpList_append_l1 rfl (.tmp 81) (.tmp 84) 47 22 rfl Try.underlying47 info_sl vt vs ((show OwnL 22 0 wd vt vs from HTX.out.own.below HBd.out (Nat.le_refl _)).alloc _) (by simp [Act.eval, Act.put]) wd.heap.size (.slice a2 t.length cp2) (by simp [Act.eval, Act.put]) (cell_new1 _ _ _) rfl HVL.out ?_; intro v2 w2 ho hg hat; obtain ⟨g2, cp3, rfl⟩ := ho.form1; have HO2 := Lib.hid ho; have HG2 := Lib.hid hg; have HAT := Lib.hid hat; have c3f : w2.cell? ⟨q, 3, none⟩ = some vt := cell_of_row w2 q 3 _ _ _ (app_row HLc.out HBd.out hg); have f3f : w2.frozen? ⟨q, 3, none⟩ = false := frozen_of_row w2 q 3 _ _ (app_row HLc.out HBd.out hg); clear ho hg hat; refine hQ' _ _ ?_; clear hQ' Q')
            | (go_simp; go_at_call 48; refine (clone_any _ t _ HSc.out.drew (by rw [HTL.out]; have := HN.out; omega)).mono ?_; rintro e wd ⟨vd, rfl, ho, hb⟩; obtain ⟨a2, cp2, rfl⟩ := ho.sl.len; have c3d : wd.cell? ⟨q, 3, none⟩ = some vt := (hb.cell (p := ⟨q, 3, none⟩) HLc.out.lt).trans c3; have c3g : ∀ o, (wd.alloc o).cell? ⟨q, 3, none⟩ = some vt := fun o => (((Below.refl wd.heap.size wd).alloc (Nat.le_refl _) o).cell (p := ⟨q, 3, none⟩) (Nat.lt_of_lt_of_le HLc.out.lt hb.size)).trans c3d; have HOd := Lib.hid (show OwnB 5 wq.heap.size wd _ t from ho); have HBd := Lib.hid (show Below wq.heap.size wq wd from (Below.drew (Below.refl _ wq)).trans hb); clear ho hb))
          all_goals (go_wp2_with fail; go_meet)
          all_goals
            have hE := app_end HLc.out (Nat.lt_of_lt_of_le HLT.out.1 HKc.out.size) (Nat.lt_of_lt_of_le HLT.out.2.1 HKc.out.size) HOd.out HBd.out HG2.out HO2.out HAT.out
            exact ⟨rfl, _, _, Lib.hid hE.1, Lib.hid hE.2.1, Lib.hid hE.2.2.1, Lib.hid hE.2.2.2, Lib.hid (Older.more fun k e => (World.ownsRow.lt HOd.out k e).1)⟩
        case rest =>
          obtain ⟨rfl, v2, vs2, HRx, HTx, HVx, HKx, HOLx⟩ := hcut
          have c4 : wc.cell? ⟨q, 4, none⟩ = some (.int .i64 (U : Int)) := by rw [← HUE.out]; exact cell_of_row wc q 4 _ _ _ HRx.out
          have f4 : wc.frozen? ⟨q, 4, none⟩ = false := frozen_of_row wc q 4 _ _ HRx.out
          have q2 := HQ2.out
          have hti : ∀ W, Calls Try.prog 52 #[.int .i64 (n : Int)] W fun e w' => e = .returned (.int .i64 (tk : Int)) ∧ w' = W := HTK.out
          go_upto_region 21 with fail
          go_still_tail 10, (by kernel_rfl)
          still_call (hti _)
          repeat still_step
          refine wpStill_nil ?_
          go_wp2
          go_ret
          rw [HAP3.out]
          have hq1 := HLc.out.ne
          have hpk : p ∉ [q] ++ vt.ownBlock.toList := by
            simp only [List.mem_append, List.mem_singleton, Option.mem_toList, not_or]
            exact ⟨Ne.symm hq1.1, fun h => HTX.out.out p h (by simp)⟩
          have hgk : g ∉ [q] ++ vt.ownBlock.toList := by
            simp only [List.mem_append, List.mem_singleton, Option.mem_toList, not_or]
            exact ⟨Ne.symm hq1.2, fun h => HTX.out.out g h (by simp)⟩
          refine ⟨rfl, ((HDc.out.kept HKx.out hpk hgk).kept ((Kept.refl [q] wc).setCell (by simp) _) (by simp [Ne.symm hq1.1]) (by simp [Ne.symm hq1.2])).drew, ⟨v2, vs2, app_fin HRx.out HTx.out hq1 HLc.out.small U tk HUE.out (by rw [HSE.out]; exact HF.out) HPT.out, fun k hk => ?_, fun i k e => (HOLx.out i k e).imp id (Nat.le_trans HKc.out.size)⟩, ?_⟩
          · rcases HVx.out k hk with h5 | h5
            · exact .inl h5
            · exact .inr (Nat.le_trans HKc.out.size h5)
          · exact ((HKc.out.mono (by intro k hk; simp at hk ⊢; rcases hk with h | h | h <;> simp [h])).trans (HKx.out.mono (by intro k hk; simp at hk ⊢; rcases hk with h | h <;> simp [h]))).trans (((Kept.refl _ wc).setCell (by simp) _).drew)
      · go_wp2
        go_ret
        have hap := HAP2.out
        rw [if_pos hr2] at hap
        rw [hap]
        refine ⟨rfl, HDc.out, ⟨vt, vs, ?_, fun k hk => .inl hk, Older.refl _ _⟩, (HKv.out.mono (by simp)).trans (HKc.out.mono (by simp))⟩
        have h3 := HLc.out
        simp only [hr2, ne_eq, not_false_eq_true, decide_true, Bool.or_true] at h3
        exact h3
    · go_wp2
      go_ret
      have hap := HAD.out
      rw [if_pos hr1] at hap
      rw [hap]
      refine ⟨rfl, HDa.out, ⟨vt, vs, ?_, fun k hk => .inl hk, Older.refl _ _⟩, ((Kept.ofBelow HZB.out (Nat.le_refl _)).trans (HKa.out.mono (by simp)))⟩
      have h3 := HLa.out
      simp only [hr1, ne_eq, not_false_eq_true, decide_true, Bool.or_true] at h3
      exact h3
end Go.Proofs.Ytdnjjemdnlegdaa
