/-
  The reference's slot.
-/
import Derived.Test.YtdnjjemdnlegdaaQSlotsPlays1
import Derived.Deep.RegionLaw
import Derived.StillTailTactics
import Derived.RangeFuncWrites
import Derived.Deep.RegionHeld3
import Derived.RangeFuncCalls
import Derived.OrdersIn
import Derived.RangeFuncNested
import Derived.RangeFuncBound
import Derived.Shelf.Abstract
import Derived.Shelf.RegionOpen
import Derived.WalkKit
import Derived.OwnWalkIn
import Derived.TacticsInMore
import Derived.LoopNIn
import Derived.LoopIn
import Derived.Laws.Tables
import Derived.Laws.BytesArg
import Derived.Laws.MakeOwn
namespace Go.Proofs.Ytdnjjemdnlegdaa
set_option linter.unusedVariables false
set_option linter.unusedSimpArgs false
open Go Go.RowKit

theorem NewB.kept {B : Nat} {L : List Nat} {w w' : World} {v : Value} {xs : List (BitVec 8)} (h : NewB B w v xs) (hk : Kept L w w') (hl : ∀ k, k ∈ L → k < B) : NewB B w' v xs := by
  obtain ⟨q, rfl, hq, hh⟩ := h
  exact ⟨q, rfl, hq, (hk.block q (Array.getElem?_eq_some_iff.1 hh).1 (fun hm => by have := hl q hm; omega)).trans hh⟩
theorem bytes_laid1 (t : List (BitVec 8)) : (bytes (Slo.laid 0 t)).set! 0 (.int .u8 1) = bytes (Slo.laid 1 t) := by
  unfold Slo.laid bytes
  simp [bv]

theorem cell_new1 (w : World) (x : Value) (t : TypeId) : (w.alloc (.cells #[x] t)).cell? ⟨w.heap.size, 0, none⟩ = some x := by simp
/-- The texts' values are the old ones, or new. -/
def Older (w : World) (vs vs' : List Value) : Prop := ∀ i k, (vs'.getD i undef).ownBlock = some k → (∃ j, (vs.getD j undef).ownBlock = some k) ∨ w.heap.size ≤ k
theorem Older.refl (w : World) (vs : List Value) : Older w vs vs := fun i k e => .inl ⟨i, e⟩
theorem getD_more (vs : List Value) (u : Value) (i : Nat) : (vs ++ [u]).getD i undef = vs.getD i undef ∨ (vs ++ [u]).getD i undef = u := by
  simp only [List.getD]
  by_cases h : i < vs.length
  · exact .inl (by rw [List.getElem?_append_left h])
  · rw [List.getElem?_append_right (by omega)]
    by_cases h2 : i - vs.length = 0
    · exact .inr (by rw [h2]; rfl)
    · exact .inl (by rw [List.getElem?_eq_none (by simp; omega), List.getElem?_eq_none (by omega)])
theorem Older.more {w : World} {vs : List Value} {u : Value} (h : ∀ k, u.ownBlock = some k → w.heap.size ≤ k) : Older w vs (vs ++ [u]) := fun i k e => by
  rcases getD_more vs u i with h1 | h1
  · exact .inl ⟨i, by rw [← h1]; exact e⟩
  · exact .inr (h k (by rw [← h1]; exact e))
/-- What Append does. -/
def AppR (w : World) (q p g : Nat) (vt : Value) (vs : List Value) (l : Slo.L) (d : Dk.D) (t : List (BitVec 8)) (e : Ending) (w' : World) : Prop :=
  e = .returned (.int .i64 (Slo.append d l t).2.2) ∧ DiskAt w' p g (Slo.append d l t).1 ∧
  (∃ vt' vs', LogAt w' q p g vt' vs' (Slo.append d l t).2.1 ∧ (∀ k, vt'.ownBlock = some k → vt.ownBlock = some k ∨ w.heap.size ≤ k) ∧ Older w vs vs') ∧ Kept ([p, g, q] ++ vt.ownBlock.toList) w w'

set_option maxRecDepth 100000 in
set_option maxHeartbeats 8000000 in
theorem slo_append_go {w : World} {q p g : Nat} {vt : Value} {vs : List Value} {l : Slo.L} {d : Dk.D} (h : LogAt w q p g vt vs l) (hD : DiskAt w p g d) (a : Option Addr) (n cap : Nat) (t : List (BitVec 8)) (hs : SlB w (.slice a n cap) t) (htl : t.length = n) (hap : Apart (.slice a n cap) t [p, g, q])
    (hd : l.dead = false) (ho : d.off = false) (hn : n ≤ 262144) (hf : Slo.taken n ≤ l.sectors - l.used) :
    Calls Try.prog 30 #[.pointer (some ⟨q, 0, none⟩), .slice a n cap] w (AppR w q p g vt vs l d t) := by
  have c0 := h.c0
  have c2 := h.c2
  have c4 := h.c4
  have c5 := h.c5
  have hsm := h.small
  have hlq := h.lt
  have hlp := hD.ltp
  have hlg := hD.ltg
  have H := Lib.hid h
  have HD := Lib.hid hD
  have HS := Lib.hid hs
  have HAP := Lib.hid hap
  have HI := Lib.hid (slo_is h)
  have HO := Lib.hid (dk_off hD)
  have HTK := Lib.hid (fun w => (taken_any n (by omega) w).mono (fun e w' (h : _ ∧ w = w') => And.intro h.1 h.2.symm))
  have hll := Slo.laid_length 0 t
  have hll1 := Slo.laid_length 1 t
  rw [htl] at hll hll1
  obtain ⟨M, hM⟩ : ∃ M, 128 * Slo.taken n = M := ⟨_, rfl⟩
  rw [hM] at hll hll1
  have HLA := Lib.hid (fun W (hW : SlB W (.slice a n cap) t) => (show Calls Try.prog 53 #[.slice a n cap] W (fun e w' => ∃ b1, e = .returned (.slice (some ⟨b1, 0, none⟩) M M) ∧ W.heap.size ≤ b1 ∧ w'.heap[b1]? = some (.cells (bytes (Slo.laid 0 t)) 5 (0, 0)) ∧ Below W.heap.size W w') from
    (laid_any t (.slice a n cap) W hW (by omega)).mono (by rintro e w' ⟨v', rfl, ⟨b1, rfl, hb1, hh1⟩, hb⟩; rw [hll]; exact ⟨b1, rfl, hb1, hh1, hb⟩)))
  have HLL := Lib.hid hll
  have HLL1 := Lib.hid hll1
  have HWH := Lib.hid (Slo.whole_length l t)
  have HWD := Lib.hid (show Slo.whole l t = Slo.laid 0 t ++ if l.used + Slo.taken t.length < l.sectors then List.replicate 128 0 else [] from rfl)
  have H01 := Lib.hid (bytes_laid1 t)
  have HB0 := Lib.hid (show (bytes (Slo.laid 0 t))[0]? = some (.int .u8 0) from rfl)
  have HAD := Lib.hid (show Slo.append d l t = _ from by
    unfold Slo.append
    rw [if_neg (by rw [hd, ho]; decide), if_neg (by omega), if_neg (by rw [htl]; omega), htl])
  have HW1 := Lib.hid (fun (wz : World) (v : Value) (xs : List (BitVec 8)) (l' : Slo.L) (d' : Dk.D) (hl' : LogAt wz q p g vt vs l') (hd' : DiskAt wz p g d') (hx : SlB wz v xs) (hxl : xs.length ≤ 1000000) (hxa : Apart v xs [g, p]) => slo_write hl' hd' v xs hx (by omega) hxa)
  generalize Slo.laid 0 t = L0 at HLA HLL HWD H01 HB0 hll
  generalize Slo.laid 1 t = L1 at HLL1 H01 HAD hll1
  generalize Slo.whole l t = W0 at HWH HWD HAD
  obtain ⟨⟨D1, E1⟩, hR⟩ : ∃ R, Dk.write d ((l.from_ + l.used : Nat) : Int) W0 = R := ⟨_, rfl⟩
  rw [hR] at HAD
  obtain ⟨⟨D2, E2⟩, hR2⟩ : ∃ R, Dk.write D1 ((l.from_ + l.used : Nat) : Int) (L1.take 128) = R := ⟨_, rfl⟩
  simp only [hR2] at HAD
  have HR := Lib.hid hR
  have HR2 := Lib.hid hR2
  have hgt := Slo.taken_ge n
  have hut := Slo.taken_le n
  have hpt := Slo.taken_pos n
  rw [hd] at c5
  rw [ho] at HO
  rw [htl] at HWH HWD
  have HTL := Lib.hid htl
  have HDE := Lib.hid hd
  generalize Slo.taken n = tk at HTK hf hM HWH HWD HAD hgt hut hpt
  obtain ⟨S, hS⟩ : ∃ S, l.sectors = S := ⟨_, rfl⟩
  obtain ⟨U, hU⟩ : ∃ U, l.used = U := ⟨_, rfl⟩
  rw [hS] at c2 hf hsm HWH HWD
  rw [hU] at c4 hf hsm HWH HWD
  have q1 : IntKind.i64.wrap ((S : Int) - U) = S - U := by rw [IntKind.wrap_i64]; omega
  have q2 : IntKind.i64.wrap ((U : Int) + tk) = (U : Int) + tk := by rw [IntKind.wrap_i64]; omega
  have h1 : (n : Int) ≤ 262144 := by omega
  have h2 : (tk : Int) ≤ S - U := by omega
  have HM := Lib.hid (show M ≤ 262276 ∧ 128 ≤ M ∧ 128 * tk = M by omega)
  have HPT := Lib.hid hpt
  have HN := Lib.hid hn
  have HLT := Lib.hid (And.intro hlp (And.intro hlg hlq))
  have HQ2 := Lib.hid q2
  have HF := Lib.hid hf
  have HSE := Lib.hid hS
  have HUE := Lib.hid hU
  unfold AppR
  clear h hD hd ho hn hf hs hap htl hgt hut hpt hsm hU hS hll hll1 hM hR hR2
  have HVL := Lib.hid (show vs.length ≤ 1000000 by have h1 := H.out.tx.len; have h2 := H.out.small; omega)
  have hcase : (U : Int) + tk < S ∨ ¬ (U : Int) + tk < S := by omega
  rcases hcase with hc | hc
  · have hcN : U + tk < S ↔ True := by constructor <;> intro <;> first | trivial | omega
    simp only [hcN, if_true, if_false] at HWH HWD
    clear hcN
    go_enter Try.func30, Try.ntmps30
    go_wp2_with (first
      | (go_at_call 51; refine HI.out.mono ?_; rintro e w' ⟨rfl, rfl⟩)
      | (go_at_call 20; refine HO.out.mono ?_; rintro e w' ⟨rfl, rfl⟩))
    go_quiet ((go_at_call 52; with_reducible exact Calls.quiet_of_same (HTK.out _)))
    rename_i n1
    clear HI HO c0 c5
    go_upto_region 11 with (go_at_call 53; refine (HLA.out _ (HS.out.drewN _)).mono ?_; rintro e wl ⟨b1, rfl, hb1, hh1, hbl⟩; have HB1 := Lib.hid (show w.heap.size ≤ b1 from hb1); have HH1 := Lib.hid hh1; have HBL := Lib.hid (show Below w.heap.size w wl from (Below.drewN (Below.refl _ w) _).trans hbl); clear hb1 hh1 hbl)
    have c2 := (H.out.below HBL.out (Nat.le_refl _)).c2
    have c4 := (H.out.below HBL.out (Nat.le_refl _)).c4
    rw [HSE.out] at c2
    rw [HUE.out] at c4
    go_quiet ((go_at_call 52; with_reducible exact Calls.quiet_of_same (HTK.out _)))
    go_upto_region 13 with (first
      | (go_at_call 48; refine (clone_any _ L0 _ (SlB.drewN (sl_row L0 HH1.out HLL.out.symm (by rw [HLL.out]; have := HM.out; omega)) _) (by rw [HLL.out]; have := HM.out; omega)).mono ?_; rintro e wk ⟨vk, rfl, ho, hb⟩; have HOk := Lib.hid ho; have HBk := Lib.hid (show Below wl.heap.size wl wk from (Below.drewN (Below.refl _ wl) _).trans hb); clear ho hb)
      | (at_builtin; refine wpList_append_z rfl (.tmp 60) (.const (.int .i64 128)) 22 3 5 rfl Try.underlying22 Try.underlying3 info_u8 wl.heap.size _ L0 HOk.out (by rw [HLL.out]; have := HM.out; omega) rfl 128 (by decide) rfl (by rw [HLL.out]; have := HM.out; omega) HBk.out.size ?_; intro v6 wz ho hg; have HO6 := Lib.hid ho; have HG6 := Lib.hid hg; clear ho hg))
    have HZl := Lib.hid (show Below wl.heap.size wl wz from HBk.out.grown HG6.out HBk.out.size (fun k e => (World.ownsRow.lt HOk.out k e).1))
    have HZB := Lib.hid (show Below w.heap.size w wz from HBL.out.trans (HZl.out.mono HBL.out.size))
    have HZ1 := Lib.hid ((HZl.out.block b1 (Array.getElem?_eq_some_iff.1 HH1.out).1).trans HH1.out)
    have HZW := Lib.hid (show SlB wz v6 W0 by rw [HWD.out]; exact HO6.out.sl)
    have HZA := Lib.hid (show Apart v6 W0 [g, p] by
      intro _ k hk
      have h1 := (World.ownsRow.lt HO6.out k hk).1
      have h2 := HBL.out.size
      have h3 := HLT.out
      simp; omega)
    clear HO6 HG6 HOk HBk HZl HBL HH1
    clear c2 c4 HLA
    go_upto_region 14 with (go_at_call 54; refine (HW1.out _ _ W0 l d (H.out.below HZB.out (Nat.le_refl _)) (HD.out.below HZB.out (Nat.le_refl _)) HZW.out (by rw [HWH.out]; have := HM.out; omega) HZA.out).mono ?_; rw [HR.out]; rintro e wa ⟨rfl, hDa, hLa, hKa⟩; have HDa := Lib.hid hDa; have HLa := Lib.hid hLa; have HKa := Lib.hid hKa; clear hDa hLa hKa)
    by_cases hr1 : E1 = 0
    · subst hr1
      have hap := HAD.out
      rw [if_neg (by simp)] at hap
      have HAP2 := Lib.hid hap
      clear hap HAD
      have hla : LogAt wa q p g vt vs l := by
        have h3 := HLa.out
        have e : { l with dead := l.dead || decide ((0 : Int) ≠ 0) } = l := by
          have := HDE.out
          cases l
          simp_all
        rw [e] at h3
        exact h3
      have HLa := Lib.hid hla
      clear hla
      have HKw := Lib.hid (show Kept [p, g, q] w wa from (Kept.ofBelow HZB.out (Nat.le_refl _)).trans (HKa.out.mono (by simp)))
      have HHa := Lib.hid ((HKa.out.block b1 (Array.getElem?_eq_some_iff.1 HZ1.out).1 (by have := HB1.out; have := HLT.out; simp; omega)).trans HZ1.out)
      have ce : wa.cell? ⟨b1, 0, none⟩ = some (.int .u8 0) := (cell_of_row wa b1 0 _ _ _ HHa.out).trans HB0.out
      have fe : wa.frozen? ⟨b1, 0, none⟩ = false := frozen_of_row wa b1 0 _ _ HHa.out
      have hm0 : 0 < M := by have := HM.out; omega
      have hm1 : (0 : Int) < M := by omega
      go_upto_region 17 with fail
      clear ce fe
      obtain ⟨wb, hwb⟩ : ∃ wb, wa.setCell ⟨b1, 0, none⟩ (.int .u8 1) = wb := ⟨_, rfl⟩
      rw [hwb]
      have HKb := Lib.hid (show Kept [b1] wa wb by rw [← hwb]; exact (Kept.refl [b1] wa).setCell (by simp) _)
      have HHb := Lib.hid (show wb.heap[b1]? = some (.cells (bytes L1) 5 (0, 0)) by
        rw [← hwb, ← H01.out]; exact heap_setCell_same wa b1 0 _ _ (.int .u8 1) HHa.out)
      have HKv := Lib.hid (show Kept [p, g, q] w wb by rw [← hwb]; exact HKw.out.newCell HB1.out _)
      have hne : p ≠ b1 ∧ g ≠ b1 ∧ q ≠ b1 := by have := HB1.out; have := HLT.out; omega
      have HDb := Lib.hid (HDa.out.kept HKb.out (by simp [hne]) (by simp [hne]))
      have HLb := Lib.hid (show LogAt wb q p g vt vs l from ⟨(HKb.out.block q HLa.out.lt (by simp [hne])).trans HLa.out.row, HLa.out.ne, H.out.tx.kept HKv.out (by simp), HLa.out.small⟩)
      have HWb := Lib.hid (show SlB wb (.slice (some ⟨b1, 0, none⟩) 128 M) (L1.take 128) from (sl_row L1 HHb.out HLL1.out.symm (by rw [HLL1.out]; have := HM.out; omega)).take 128 (by have := HM.out; omega))
      have HWa := Lib.hid (show Apart (.slice (some ⟨b1, 0, none⟩) 128 M) (L1.take 128) [g, p] by
        intro _ k hk
        simp only [Value.ownBlock, Option.some.injEq] at hk
        subst hk
        simp [Ne.symm hne.1, Ne.symm hne.2.1])
      have hm128 : 128 ≤ M := by have := HM.out; omega
      have hm129 : (128 : Int) ≤ M := by omega
      clear hwb HKb HHa HLa HDa HKa HKw
      go_upto_region 18 with (go_at_call 54; refine (HW1.out _ _ (L1.take 128) l D1 HLb.out HDb.out HWb.out (by rw [List.length_take]; omega) HWa.out).mono ?_; rw [HR2.out]; rintro e wq ⟨rfl, hDc, hLc, hKc⟩; have HDc := Lib.hid hDc; have HLc := Lib.hid hLc; have HKc := Lib.hid hKc; clear hDc hLc hKc)
      by_cases hr2 : E2 = 0
      · subst hr2
        have hap := HAP2.out
        rw [if_neg (by simp)] at hap
        have HAP3 := Lib.hid hap
        clear hap HAP2
        have hlc : LogAt wq q p g vt vs l := by
          have h3 := HLc.out
          have e : { l with dead := l.dead || decide ((0 : Int) ≠ 0) } = l := by
            have := HDE.out
            cases l
            simp_all
          rw [e] at h3
          exact h3
        have HLc := Lib.hid hlc
        clear hlc
        have HKc := Lib.hid (show Kept [p, g, q] w wq from HKv.out.trans HKc.out)
        have HSc := Lib.hid (show SlB wq (.slice a n cap) t by
          by_cases h0 : t = []
          · rcases HS.out with h | ⟨b, off, cap', e, k1, k2, k3, k4⟩
            · exact .inl h
            · exact .inr ⟨b, off, cap', e, k1, k2, Nat.lt_of_lt_of_le k3 HKc.out.size, fun j hj => absurd hj (by rw [h0]; simp)⟩
          · exact HS.out.keptV HKc.out (fun k hk hm => HAP.out h0 k hk hm))
        have c3 := HLc.out.c3
        have HTX := Lib.hid HLc.out.tx
        have hvt : ∀ k, vt.ownBlock = some k → k < wq.heap.size := fun k e => (World.ownsRow.lt HTX.out.own k e).2
        have HQV := Lib.hid (show ∀ k, vt.ownBlock = some k → k ≠ q from fun k e h => HTX.out.out k e (by simp [h]))
        have HVT := Lib.hid hvt
        clear hvt
        go_upto_region 20 with fail
        clear HLb HDb HWb HWa HHb HZA HZW HZ1 HZB HKv HW1 hm0 hm1 hm128 hm129 h1 h2 hc q1 q2
        go_cut [4] (fun s wx => s = .int .i64 0 ∧ ∃ v2 vs2, Hid (wx.heap[q]? = some (.cells (lcells p v2 l) 75 (0, 0))) ∧ Hid (Tx wx v2 (l.texts ++ [t]) vs2 [p, g, q]) ∧ Hid (∀ k, v2.ownBlock = some k → vt.ownBlock = some k ∨ wq.heap.size ≤ k) ∧ Hid (Kept ([q] ++ vt.ownBlock.toList) wq wx) ∧ Hid (Older wq vs vs2))
        case first =>
          go_region_law (first
            | (refine any_of_list (by rfl) (fun Q' hQ' => ?_); (try simp only [List.getElem_toArray, List.getElem_cons_zero, List.getElem_cons_succ]); refine wpList_append_l1 rfl (.tmp 81) (.tmp 84) 47 22 rfl Try.underlying47 info_sl vt vs ((show OwnL 22 0 wd vt vs from HTX.out.own.below HBd.out (Nat.le_refl _)).alloc _) (by simp [Act.eval, Act.put]) wd.heap.size (.slice a2 t.length cp2) (by simp [Act.eval, Act.put]) (cell_new1 _ _ _) rfl HVL.out ?_; intro v2 w2 ho hg hat; obtain ⟨g2, cp3, rfl⟩ := ho.form1; have HO2 := Lib.hid ho; have HG2 := Lib.hid hg; have HAT := Lib.hid hat; have c3f : w2.cell? ⟨q, 3, none⟩ = some vt := cell_of_row w2 q 3 _ _ _ (app_row HLc.out HBd.out hg); have f3f : w2.frozen? ⟨q, 3, none⟩ = false := frozen_of_row w2 q 3 _ _ (app_row HLc.out HBd.out hg); clear ho hg hat; refine hQ' _ _ ?_; clear hQ' Q')
            | (go_simp; go_at_call 48; refine (clone_any _ t _ HSc.out.drew (by rw [HTL.out]; have := HN.out; omega)).mono ?_; rintro e wd ⟨vd, rfl, ho, hb⟩; obtain ⟨a2, cp2, rfl⟩ := ho.sl.len; have c3d : wd.cell? ⟨q, 3, none⟩ = some vt := (hb.cell (p := ⟨q, 3, none⟩) HLc.out.lt).trans c3; have c3g : ∀ o, (wd.alloc o).cell? ⟨q, 3, none⟩ = some vt := fun o => (((Below.refl wd.heap.size wd).alloc (Nat.le_refl _) o).cell (p := ⟨q, 3, none⟩) (Nat.lt_of_lt_of_le HLc.out.lt hb.size)).trans c3d; have HOd := Lib.hid (show OwnB 5 wq.heap.size wd _ t from ho); have HBd := Lib.hid (show Below wq.heap.size wq wd from (Below.drew (Below.refl _ wq)).trans hb); clear ho hb))
          all_goals (go_wp2_with fail; go_meet)
          all_goals
            have hE := app_end HLc.out (Nat.lt_of_lt_of_le HLT.out.1 HKc.out.size) (Nat.lt_of_lt_of_le HLT.out.2.1 HKc.out.size) HOd.out HBd.out HG2.out HO2.out HAT.out
            exact ⟨rfl, _, _, Lib.hid hE.1, Lib.hid hE.2.1, Lib.hid hE.2.2.1, Lib.hid hE.2.2.2, Lib.hid (Older.more fun k e => (World.ownsRow.lt HOd.out k e).1)⟩
        case rest =>
          obtain ⟨rfl, v2, vs2, HRx, HTx, HVx, HKx, HOLx⟩ := hcut
          have c4 : wc.cell? ⟨q, 4, none⟩ = some (.int .i64 (U : Int)) := by rw [← HUE.out]; exact cell_of_row wc q 4 _ _ _ HRx.out
          have f4 : wc.frozen? ⟨q, 4, none⟩ = false := frozen_of_row wc q 4 _ _ HRx.out
          have q2 := HQ2.out
          have hti : ∀ W, Calls Try.prog 52 #[.int .i64 (n : Int)] W fun e w' => e = .returned (.int .i64 (tk : Int)) ∧ w' = W := HTK.out
          go_upto_region 21 with fail
          go_still_tail 10, (by kernel_rfl)
          still_call (hti _)
          repeat still_step
          refine wpStill_nil ?_
          go_wp2
          go_ret
          rw [HAP3.out]
          have hq1 := HLc.out.ne
          have hpk : p ∉ [q] ++ vt.ownBlock.toList := by
            simp only [List.mem_append, List.mem_singleton, Option.mem_toList, not_or]
            exact ⟨Ne.symm hq1.1, fun h => HTX.out.out p h (by simp)⟩
          have hgk : g ∉ [q] ++ vt.ownBlock.toList := by
            simp only [List.mem_append, List.mem_singleton, Option.mem_toList, not_or]
            exact ⟨Ne.symm hq1.2, fun h => HTX.out.out g h (by simp)⟩
          refine ⟨rfl, ((HDc.out.kept HKx.out hpk hgk).kept ((Kept.refl [q] wc).setCell (by simp) _) (by simp [Ne.symm hq1.1]) (by simp [Ne.symm hq1.2])).drew, ⟨v2, vs2, app_fin HRx.out HTx.out hq1 HLc.out.small U tk HUE.out (by rw [HSE.out]; exact HF.out) HPT.out, fun k hk => ?_, fun i k e => (HOLx.out i k e).imp id (Nat.le_trans HKc.out.size)⟩, ?_⟩
          · rcases HVx.out k hk with h5 | h5
            · exact .inl h5
            · exact .inr (Nat.le_trans HKc.out.size h5)
          · exact ((HKc.out.mono (by intro k hk; simp at hk ⊢; rcases hk with h | h | h <;> simp [h])).trans (HKx.out.mono (by intro k hk; simp at hk ⊢; rcases hk with h | h <;> simp [h]))).trans (((Kept.refl _ wc).setCell (by simp) _).drew)
      · go_wp2
        go_ret
        have hap := HAP2.out
        rw [if_pos hr2] at hap
        rw [hap]
        refine ⟨rfl, HDc.out, ⟨vt, vs, ?_, fun k hk => .inl hk, Older.refl _ _⟩, (HKv.out.mono (by simp)).trans (HKc.out.mono (by simp))⟩
        have h3 := HLc.out
        simp only [hr2, ne_eq, not_false_eq_true, decide_true, Bool.or_true] at h3
        exact h3
    · go_wp2
      go_ret
      have hap := HAD.out
      rw [if_pos hr1] at hap
      rw [hap]
      refine ⟨rfl, HDa.out, ⟨vt, vs, ?_, fun k hk => .inl hk, Older.refl _ _⟩, ((Kept.ofBelow HZB.out (Nat.le_refl _)).trans (HKa.out.mono (by simp)))⟩
      have h3 := HLa.out
      simp only [hr1, ne_eq, not_false_eq_true, decide_true, Bool.or_true] at h3
      exact h3
  · have hcN : U + tk < S ↔ False := by constructor <;> intro <;> first | trivial | omega
    simp only [hcN, if_true, if_false] at HWH HWD
    clear hcN
    go_enter Try.func30, Try.ntmps30
    go_wp2_with (first
      | (go_at_call 51; refine HI.out.mono ?_; rintro e w' ⟨rfl, rfl⟩)
      | (go_at_call 20; refine HO.out.mono ?_; rintro e w' ⟨rfl, rfl⟩))
    go_quiet ((go_at_call 52; with_reducible exact Calls.quiet_of_same (HTK.out _)))
    rename_i n1
    clear HI HO c0 c5
    go_upto_region 11 with (go_at_call 53; refine (HLA.out _ (HS.out.drewN _)).mono ?_; rintro e wl ⟨b1, rfl, hb1, hh1, hbl⟩; have HB1 := Lib.hid (show w.heap.size ≤ b1 from hb1); have HH1 := Lib.hid hh1; have HBL := Lib.hid (show Below w.heap.size w wl from (Below.drewN (Below.refl _ w) _).trans hbl); clear hb1 hh1 hbl)
    have c2 := (H.out.below HBL.out (Nat.le_refl _)).c2
    have c4 := (H.out.below HBL.out (Nat.le_refl _)).c4
    rw [HSE.out] at c2
    rw [HUE.out] at c4
    go_quiet ((go_at_call 52; with_reducible exact Calls.quiet_of_same (HTK.out _)))
    go_upto_region 13 with fail
    obtain ⟨wz, hwz⟩ : ∃ wz, wl.drewN nq = wz := ⟨_, rfl⟩
    rw [hwz]
    have HZB := Lib.hid (show Below w.heap.size w wz by rw [← hwz]; exact Below.drewN HBL.out _)
    have HZ1 := Lib.hid (show wz.heap[b1]? = some (.cells (bytes L0) 5 (0, 0)) by rw [← hwz]; exact HH1.out)
    have HZW := Lib.hid (show SlB wz (.slice (some ⟨b1, 0, none⟩) M M) W0 by rw [HWD.out, List.append_nil]; exact sl_row L0 HZ1.out HLL.out.symm (by rw [HLL.out]; have := HM.out; omega))
    have HZA := Lib.hid (show Apart (.slice (some ⟨b1, 0, none⟩) M M) W0 [g, p] by
      intro _ k hk
      have h1 := HB1.out
      have h3 := HLT.out
      simp only [Value.ownBlock, Option.some.injEq] at hk
      subst hk
      simp; omega)
    clear HBL HH1 hwz
    clear c2 c4 HLA
    go_upto_region 14 with (go_at_call 54; refine (HW1.out _ _ W0 l d (H.out.below HZB.out (Nat.le_refl _)) (HD.out.below HZB.out (Nat.le_refl _)) HZW.out (by rw [HWH.out]; have := HM.out; omega) HZA.out).mono ?_; rw [HR.out]; rintro e wa ⟨rfl, hDa, hLa, hKa⟩; have HDa := Lib.hid hDa; have HLa := Lib.hid hLa; have HKa := Lib.hid hKa; clear hDa hLa hKa)
    by_cases hr1 : E1 = 0
    · subst hr1
      have hap := HAD.out
      rw [if_neg (by simp)] at hap
      have HAP2 := Lib.hid hap
      clear hap HAD
      have hla : LogAt wa q p g vt vs l := by
        have h3 := HLa.out
        have e : { l with dead := l.dead || decide ((0 : Int) ≠ 0) } = l := by
          have := HDE.out
          cases l
          simp_all
        rw [e] at h3
        exact h3
      have HLa := Lib.hid hla
      clear hla
      have HKw := Lib.hid (show Kept [p, g, q] w wa from (Kept.ofBelow HZB.out (Nat.le_refl _)).trans (HKa.out.mono (by simp)))
      have HHa := Lib.hid ((HKa.out.block b1 (Array.getElem?_eq_some_iff.1 HZ1.out).1 (by have := HB1.out; have := HLT.out; simp; omega)).trans HZ1.out)
      have ce : wa.cell? ⟨b1, 0, none⟩ = some (.int .u8 0) := (cell_of_row wa b1 0 _ _ _ HHa.out).trans HB0.out
      have fe : wa.frozen? ⟨b1, 0, none⟩ = false := frozen_of_row wa b1 0 _ _ HHa.out
      have hm0 : 0 < M := by have := HM.out; omega
      have hm1 : (0 : Int) < M := by omega
      go_upto_region 17 with fail
      clear ce fe
      obtain ⟨wb, hwb⟩ : ∃ wb, wa.setCell ⟨b1, 0, none⟩ (.int .u8 1) = wb := ⟨_, rfl⟩
      rw [hwb]
      have HKb := Lib.hid (show Kept [b1] wa wb by rw [← hwb]; exact (Kept.refl [b1] wa).setCell (by simp) _)
      have HHb := Lib.hid (show wb.heap[b1]? = some (.cells (bytes L1) 5 (0, 0)) by
        rw [← hwb, ← H01.out]; exact heap_setCell_same wa b1 0 _ _ (.int .u8 1) HHa.out)
      have HKv := Lib.hid (show Kept [p, g, q] w wb by rw [← hwb]; exact HKw.out.newCell HB1.out _)
      have hne : p ≠ b1 ∧ g ≠ b1 ∧ q ≠ b1 := by have := HB1.out; have := HLT.out; omega
      have HDb := Lib.hid (HDa.out.kept HKb.out (by simp [hne]) (by simp [hne]))
      have HLb := Lib.hid (show LogAt wb q p g vt vs l from ⟨(HKb.out.block q HLa.out.lt (by simp [hne])).trans HLa.out.row, HLa.out.ne, H.out.tx.kept HKv.out (by simp), HLa.out.small⟩)
      have HWb := Lib.hid (show SlB wb (.slice (some ⟨b1, 0, none⟩) 128 M) (L1.take 128) from (sl_row L1 HHb.out HLL1.out.symm (by rw [HLL1.out]; have := HM.out; omega)).take 128 (by have := HM.out; omega))
      have HWa := Lib.hid (show Apart (.slice (some ⟨b1, 0, none⟩) 128 M) (L1.take 128) [g, p] by
        intro _ k hk
        simp only [Value.ownBlock, Option.some.injEq] at hk
        subst hk
        simp [Ne.symm hne.1, Ne.symm hne.2.1])
      have hm128 : 128 ≤ M := by have := HM.out; omega
      have hm129 : (128 : Int) ≤ M := by omega
      clear hwb HKb HHa HLa HDa HKa HKw
      go_upto_region 18 with (go_at_call 54; refine (HW1.out _ _ (L1.take 128) l D1 HLb.out HDb.out HWb.out (by rw [List.length_take]; omega) HWa.out).mono ?_; rw [HR2.out]; rintro e wq ⟨rfl, hDc, hLc, hKc⟩; have HDc := Lib.hid hDc; have HLc := Lib.hid hLc; have HKc := Lib.hid hKc; clear hDc hLc hKc)
      by_cases hr2 : E2 = 0
      · subst hr2
        have hap := HAP2.out
        rw [if_neg (by simp)] at hap
        have HAP3 := Lib.hid hap
        clear hap HAP2
        have hlc : LogAt wq q p g vt vs l := by
          have h3 := HLc.out
          have e : { l with dead := l.dead || decide ((0 : Int) ≠ 0) } = l := by
            have := HDE.out
            cases l
            simp_all
          rw [e] at h3
          exact h3
        have HLc := Lib.hid hlc
        clear hlc
        have HKc := Lib.hid (show Kept [p, g, q] w wq from HKv.out.trans HKc.out)
        have HSc := Lib.hid (show SlB wq (.slice a n cap) t by
          by_cases h0 : t = []
          · rcases HS.out with h | ⟨b, off, cap', e, k1, k2, k3, k4⟩
            · exact .inl h
            · exact .inr ⟨b, off, cap', e, k1, k2, Nat.lt_of_lt_of_le k3 HKc.out.size, fun j hj => absurd hj (by rw [h0]; simp)⟩
          · exact HS.out.keptV HKc.out (fun k hk hm => HAP.out h0 k hk hm))
        have c3 := HLc.out.c3
        have HTX := Lib.hid HLc.out.tx
        have hvt : ∀ k, vt.ownBlock = some k → k < wq.heap.size := fun k e => (World.ownsRow.lt HTX.out.own k e).2
        have HQV := Lib.hid (show ∀ k, vt.ownBlock = some k → k ≠ q from fun k e h => HTX.out.out k e (by simp [h]))
        have HVT := Lib.hid hvt
        clear hvt
        go_upto_region 20 with fail
        clear HLb HDb HWb HWa HHb HZA HZW HZ1 HZB HKv HW1 hm0 hm1 hm128 hm129 h1 h2 hc q1 q2
        go_cut [4] (fun s wx => s = .int .i64 0 ∧ ∃ v2 vs2, Hid (wx.heap[q]? = some (.cells (lcells p v2 l) 75 (0, 0))) ∧ Hid (Tx wx v2 (l.texts ++ [t]) vs2 [p, g, q]) ∧ Hid (∀ k, v2.ownBlock = some k → vt.ownBlock = some k ∨ wq.heap.size ≤ k) ∧ Hid (Kept ([q] ++ vt.ownBlock.toList) wq wx) ∧ Hid (Older wq vs vs2))
        case first =>
          go_region_law (first
            | (refine any_of_list (by rfl) (fun Q' hQ' => ?_); (try simp only [List.getElem_toArray, List.getElem_cons_zero, List.getElem_cons_succ]); refine wpList_append_l1 rfl (.tmp 81) (.tmp 84) 47 22 rfl Try.underlying47 info_sl vt vs ((show OwnL 22 0 wd vt vs from HTX.out.own.below HBd.out (Nat.le_refl _)).alloc _) (by simp [Act.eval, Act.put]) wd.heap.size (.slice a2 t.length cp2) (by simp [Act.eval, Act.put]) (cell_new1 _ _ _) rfl HVL.out ?_; intro v2 w2 ho hg hat; obtain ⟨g2, cp3, rfl⟩ := ho.form1; have HO2 := Lib.hid ho; have HG2 := Lib.hid hg; have HAT := Lib.hid hat; have c3f : w2.cell? ⟨q, 3, none⟩ = some vt := cell_of_row w2 q 3 _ _ _ (app_row HLc.out HBd.out hg); have f3f : w2.frozen? ⟨q, 3, none⟩ = false := frozen_of_row w2 q 3 _ _ (app_row HLc.out HBd.out hg); clear ho hg hat; refine hQ' _ _ ?_; clear hQ' Q')
            | (go_simp; go_at_call 48; refine (clone_any _ t _ HSc.out.drew (by rw [HTL.out]; have := HN.out; omega)).mono ?_; rintro e wd ⟨vd, rfl, ho, hb⟩; obtain ⟨a2, cp2, rfl⟩ := ho.sl.len; have c3d : wd.cell? ⟨q, 3, none⟩ = some vt := (hb.cell (p := ⟨q, 3, none⟩) HLc.out.lt).trans c3; have c3g : ∀ o, (wd.alloc o).cell? ⟨q, 3, none⟩ = some vt := fun o => (((Below.refl wd.heap.size wd).alloc (Nat.le_refl _) o).cell (p := ⟨q, 3, none⟩) (Nat.lt_of_lt_of_le HLc.out.lt hb.size)).trans c3d; have HOd := Lib.hid (show OwnB 5 wq.heap.size wd _ t from ho); have HBd := Lib.hid (show Below wq.heap.size wq wd from (Below.drew (Below.refl _ wq)).trans hb); clear ho hb))
          all_goals (go_wp2_with fail; go_meet)
          all_goals
            have hE := app_end HLc.out (Nat.lt_of_lt_of_le HLT.out.1 HKc.out.size) (Nat.lt_of_lt_of_le HLT.out.2.1 HKc.out.size) HOd.out HBd.out HG2.out HO2.out HAT.out
            exact ⟨rfl, _, _, Lib.hid hE.1, Lib.hid hE.2.1, Lib.hid hE.2.2.1, Lib.hid hE.2.2.2, Lib.hid (Older.more fun k e => (World.ownsRow.lt HOd.out k e).1)⟩
        case rest =>
          obtain ⟨rfl, v2, vs2, HRx, HTx, HVx, HKx, HOLx⟩ := hcut
          have c4 : wc.cell? ⟨q, 4, none⟩ = some (.int .i64 (U : Int)) := by rw [← HUE.out]; exact cell_of_row wc q 4 _ _ _ HRx.out
          have f4 : wc.frozen? ⟨q, 4, none⟩ = false := frozen_of_row wc q 4 _ _ HRx.out
          have q2 := HQ2.out
          have hti : ∀ W, Calls Try.prog 52 #[.int .i64 (n : Int)] W fun e w' => e = .returned (.int .i64 (tk : Int)) ∧ w' = W := HTK.out
          go_upto_region 21 with fail
          go_still_tail 10, (by kernel_rfl)
          still_call (hti _)
          repeat still_step
          refine wpStill_nil ?_
          go_wp2
          go_ret
          rw [HAP3.out]
          have hq1 := HLc.out.ne
          have hpk : p ∉ [q] ++ vt.ownBlock.toList := by
            simp only [List.mem_append, List.mem_singleton, Option.mem_toList, not_or]
            exact ⟨Ne.symm hq1.1, fun h => HTX.out.out p h (by simp)⟩
          have hgk : g ∉ [q] ++ vt.ownBlock.toList := by
            simp only [List.mem_append, List.mem_singleton, Option.mem_toList, not_or]
            exact ⟨Ne.symm hq1.2, fun h => HTX.out.out g h (by simp)⟩
          refine ⟨rfl, ((HDc.out.kept HKx.out hpk hgk).kept ((Kept.refl [q] wc).setCell (by simp) _) (by simp [Ne.symm hq1.1]) (by simp [Ne.symm hq1.2])).drew, ⟨v2, vs2, app_fin HRx.out HTx.out hq1 HLc.out.small U tk HUE.out (by rw [HSE.out]; exact HF.out) HPT.out, fun k hk => ?_, fun i k e => (HOLx.out i k e).imp id (Nat.le_trans HKc.out.size)⟩, ?_⟩
          · rcases HVx.out k hk with h5 | h5
            · exact .inl h5
            · exact .inr (Nat.le_trans HKc.out.size h5)
          · exact ((HKc.out.mono (by intro k hk; simp at hk ⊢; rcases hk with h | h | h <;> simp [h])).trans (HKx.out.mono (by intro k hk; simp at hk ⊢; rcases hk with h | h <;> simp [h]))).trans (((Kept.refl _ wc).setCell (by simp) _).drew)
      · go_wp2
        go_ret
        have hap := HAP2.out
        rw [if_pos hr2] at hap
        rw [hap]
        refine ⟨rfl, HDc.out, ⟨vt, vs, ?_, fun k hk => .inl hk, Older.refl _ _⟩, (HKv.out.mono (by simp)).trans (HKc.out.mono (by simp))⟩
        have h3 := HLc.out
        simp only [hr2, ne_eq, not_false_eq_true, decide_true, Bool.or_true] at h3
        exact h3
    · go_wp2
      go_ret
      have hap := HAD.out
      rw [if_pos hr1] at hap
      rw [hap]
      refine ⟨rfl, HDa.out, ⟨vt, vs, ?_, fun k hk => .inl hk, Older.refl _ _⟩, ((Kept.ofBelow HZB.out (Nat.le_refl _)).trans (HKa.out.mono (by simp)))⟩
      have h3 := HLa.out
      simp only [hr1, ne_eq, not_false_eq_true, decide_true, Bool.or_true] at h3
      exact h3
end Go.Proofs.Ytdnjjemdnlegdaa
namespace Go.Proofs.Ytdnjjemdnlegdaa
set_option linter.unusedVariables false
set_option linter.unusedSimpArgs false
open Go Go.RowKit

theorem LogAt.drewN {w : World} {q p g : Nat} {vt : Value} {vs : List Value} {l : Slo.L} (h : LogAt w q p g vt vs l) (m : Nat) : LogAt (w.drewN m) q p g vt vs l := h.below (Below.drewN (Below.refl _ w) m) (Nat.le_refl _)
/-- Append, whatever is told. -/
theorem slo_append {w : World} {q p g : Nat} {vt : Value} {vs : List Value} {l : Slo.L} {d : Dk.D} (h : LogAt w q p g vt vs l) (hD : DiskAt w p g d) (v : Value) (t : List (BitVec 8)) (hs : SlB w v t) (hap : Apart v t [p, g, q]) :
    Calls Try.prog 30 #[.pointer (some ⟨q, 0, none⟩), v] w (AppR w q p g vt vs l d t) := by
  obtain ⟨a, cap, rfl⟩ := hs.len
  have hK : ∀ m, Kept ([p, g, q] ++ vt.ownBlock.toList) w (w.drewN m) := fun m => (Kept.refl _ w).drewN m
  have hd : ∀ m, LogAt (w.drewN m) q p g vt vs l := h.drewN
  by_cases h1 : (l.dead || d.off) = true
  · have e : Slo.append d l t = (d, l, 12) := by unfold Slo.append; rw [if_pos h1]
    refine (slo_append_off h hD _ h1).mono ?_
    rintro x w' ⟨rfl, rfl⟩
    unfold AppR
    rw [e]
    exact ⟨rfl, hD, ⟨vt, vs, h, fun k hk => .inl hk, Older.refl _ _⟩, Kept.refl _ w⟩
  · have h1' : l.dead = false ∧ d.off = false := by simpa using h1
    by_cases h2 : 262144 < t.length
    · have e : Slo.append d l t = (d, l, 3) := by unfold Slo.append; rw [if_neg h1, if_pos h2]
      refine (slo_append_long h hD a t.length cap h1'.1 h1'.2 h2).mono ?_
      rintro x w' ⟨rfl, rfl⟩
      unfold AppR
      rw [e]
      exact ⟨rfl, hD, ⟨vt, vs, h, fun k hk => .inl hk, Older.refl _ _⟩, Kept.refl _ w⟩
    · by_cases h3 : l.sectors - l.used < Slo.taken t.length
      · have e : Slo.append d l t = (d, l, 7) := by unfold Slo.append; rw [if_neg h1, if_neg h2, if_pos h3]
        refine (slo_append_full h hD a t.length cap h1'.1 h1'.2 (by omega) h3).mono ?_
        rintro x w' ⟨rfl, m, rfl⟩
        unfold AppR
        rw [e]
        exact ⟨rfl, hD.drewN m, ⟨vt, vs, hd m, fun k hk => .inl hk, Older.refl _ _⟩, hK m⟩
      · exact slo_append_go h hD a t.length cap t hs rfl hap h1'.1 h1'.2 (by omega) (by omega)
end Go.Proofs.Ytdnjjemdnlegdaa
namespace Go.Proofs.Ytdnjjemdnlegdaa
set_option linter.unusedVariables false
set_option linter.unusedSimpArgs false
open Go Go.RowKit

/-- What All returns: copies of the texts. -/
def AllR (w : World) (p g q : Nat) (ts : List (List (BitVec 8))) (e : Ending) (w' : World) : Prop :=
  ∃ vo us, e = .returned vo ∧ Tx w' vo ts us [p, g, q] ∧ ((∀ k, vo.ownBlock = some k → w.heap.size ≤ k) ∧ ∀ i k, (us.getD i undef).ownBlock = some k → w.heap.size ≤ k) ∧ Below w.heap.size w w'
structure Outs (w : World) (p g q : Nat) (ts : List (List (BitVec 8))) (vo : Value) (wr : World) : Prop where
  tx : ∃ us, Tx wr vo ts us [p, g, q] ∧ ∀ i k, (us.getD i undef).ownBlock = some k → w.heap.size ≤ k
  new : ∀ k, vo.ownBlock = some k → w.heap.size ≤ k
  below : Below w.heap.size w wr
theorem Outs.more {w wr wd w2 : World} {p g q : Nat} {ts : List (List (BitVec 8))} {vo v2 u : Value} {us : List Value} {o : Obj} {t : List (BitVec 8)} (hlt : p < w.heap.size ∧ g < w.heap.size ∧ q < w.heap.size) (htx : Tx wr vo ts us [p, g, q]) (hnt : ∀ i k, (us.getD i undef).ownBlock = some k → w.heap.size ≤ k) (hnew : ∀ k, vo.ownBlock = some k → w.heap.size ≤ k) (hbe : Below w.heap.size w wr)
    (ho : OwnB 5 wr.heap.size wd u t) (hb : Below wr.heap.size wr wd) (hg : (wd.alloc o).grownBy w2 vo.ownBlock) (hown : OwnL 22 0 w2 v2 (us ++ [u])) (hat : v2.ownBlock = vo.ownBlock ∨ v2.ownBlock = some (wd.alloc o).heap.size) : Outs w p g q (ts ++ [t]) v2 w2 := by
  have hz : (wd.alloc o).heap.size = wd.heap.size + 1 := by simp
  have hbs := hb.size
  have hwr := hbe.size
  have hgs := hg.size
  have hvk : ∀ k, vo.ownBlock = some k → k < wr.heap.size := fun k e => (World.ownsRow.lt htx.own k e).2
  have hK : Kept ([q] ++ vo.ownBlock.toList) wr w2 := ((Kept.ofBelow hb (Nat.le_refl _)).alloc o).grown hg (fun k e => .inl (by simp [e]))
  refine ⟨⟨us ++ [u], htx.append (B := wd.heap.size + 1) ⟨by omega, by omega, by omega⟩ hK hown ?_ ?_ (by omega) (by omega) (by rw [← hz]; exact hat), fun i k e => ?_⟩, fun k e => ?_, ?_⟩
  · refine ho.sl.keptV (l := vo.ownBlock.toList) (((Kept.refl _ wd).alloc o).grown hg (fun k e => .inl (by simp [e]))) fun k e hm => ?_
    have h5 := World.ownsRow.lt ho k e
    have := hvk k (by simpa using hm)
    omega
  · intro k e
    have h5 := World.ownsRow.lt ho k e
    omega
  · rcases getD_more us u i with h1 | h1
    · exact hnt i k (h1 ▸ e)
    · rw [h1] at e
      have h5 := World.ownsRow.lt ho k e
      omega
  · rcases hat with h1 | h1
    · exact hnew k (h1 ▸ e)
    · rw [h1, hz] at e
      simp at e
      omega
  · exact ((hbe.trans (hb.mono hwr)).alloc (by omega) o).grown hg (by omega) (fun k e => hnew k e)

set_option maxRecDepth 100000 in
set_option maxHeartbeats 4000000 in
theorem slo_all {w : World} {q p g : Nat} {vt : Value} {vs : List Value} {l : Slo.L} (h : LogAt w q p g vt vs l) (hp : p < w.heap.size) (hg : g < w.heap.size) (hts : ∀ t ∈ l.texts, t.length ≤ 262144) :
    Calls Try.prog 32 #[.pointer (some ⟨q, 0, none⟩)] w (AllR w p g q l.texts) := by
  have c3 := h.c3
  have H := Lib.hid h
  have HI := Lib.hid (slo_is h)
  have HLT := Lib.hid (And.intro hp (And.intro hg h.lt))
  have hlen := h.tx.len
  have hsm := h.small
  have HTS := Lib.hid (fun i (hi : i < l.texts.length) => (show (l.texts.getD i []).length ≤ 262144 from hts _ (by rw [List.getD, List.getElem?_eq_getElem hi]; exact List.getElem_mem hi)))
  have HST := Lib.hid (Outs.mk ⟨[], Tx.nil w [p, g, q], fun i k e => by simp [List.getD, undef, Value.ownBlock] at e⟩ (fun k e => by simp [Value.ownBlock] at e) (Below.refl _ w) : Outs w p g q (l.texts.take 0) (.slice none 0 0) w)
  rcases h.tx.own.sl with ⟨rfl, hvs⟩ | ⟨b, off, cap, rfl, h1, h2, h3, h4⟩
  · have h0 : l.texts = [] := List.eq_nil_of_length_eq_zero (by rw [← hlen, hvs]; rfl)
    rw [h0] at HST ⊢
    clear h hp hg hlen hsm hts h0
    go_enter Try.func32, Try.ntmps32
    go_wp2_with (go_at_call 51; refine HI.out.mono ?_; rintro e w' ⟨rfl, rfl⟩)
    go_loopw [2, 13] (fun s2 s13 wr => s13 = .int .i64 0 ∧ s2 = .slice none 0 0 ∧ wr = w) (fun _ _ _ => 0)
    case atStart => exact ⟨rfl, rfl, rfl⟩
    case round =>
      obtain ⟨rfl, rfl, rfl⟩ := hrel
      go_wp2
      go_ret
      obtain ⟨us, hu, hn⟩ := HST.out.tx
      exact ⟨_, us, rfl, hu, ⟨HST.out.new, hn⟩, HST.out.below⟩
  · obtain ⟨N, hN⟩ : ∃ N, vs.length = N := ⟨_, rfl⟩
    rw [hN] at h1 h4 c3 hlen
    have HL := Lib.hid hlen
    have HC := Lib.hid (fun W (hW : Below w.heap.size w W) j (hj : j < N) => (hW.cell (p := ⟨b, off + j, none⟩) h3).trans (h4 j hj))
    have HS := Lib.hid (fun W (hW : Below w.heap.size w W) j (hj : j < N) => (h.tx.txt j (by omega)).below hW (Nat.le_refl _))
    have hn : N ≤ 16384 := by omega
    clear h hp hg hlen hsm hts h1 h2 h3 h4 hN
    go_enter Try.func32, Try.ntmps32
    go_wp2_with (go_at_call 51; refine HI.out.mono ?_; rintro e w' ⟨rfl, rfl⟩)
    go_loopw [2, 13] (fun s2 s13 wr => ∃ k : Nat, k ≤ N ∧ s13 = .int .i64 k ∧ Hid (Outs w p g q (l.texts.take k) s2 wr)) (fun _ s13 _ => N - (intOf s13).toNat)
    case atStart => exact ⟨0, by omega, rfl, HST⟩
    case round =>
      obtain ⟨k, hk, rfl, HO⟩ := hrel
      by_cases hlt : k < N
      · have hck := HC.out wr HO.out.below k hlt
        have HSK := Lib.hid (HS.out wr HO.out.below k hlt)
        have HTK := Lib.hid (HTS.out k (by rw [← HL.out]; exact hlt))
        obtain ⟨us, htx, hnt⟩ := HO.out.tx
        have HNT := Lib.hid hnt
        clear hnt
        have HVL := Lib.hid (show us.length ≤ 1000000 by have := htx.len; rw [List.length_take] at this; omega)
        have HLT2 := Lib.hid (show p < w.heap.size ∧ g < w.heap.size ∧ q < w.heap.size from HLT.out)
        have HNX := Lib.hid (show l.texts.take (k + 1) = l.texts.take k ++ [l.texts.getD k []] by
          have hkl : k < l.texts.length := by rw [← HL.out]; exact hlt
          rw [List.take_succ_eq_append_getElem hkl, List.getD, List.getElem?_eq_getElem hkl]; rfl)
        go_wp2_with (first
          | (go_at_call 48; refine (clone_any _ (l.texts.getD k []) _ HSK.out (by have := HTK.out; omega)).mono ?_; rintro e wd ⟨vd, rfl, ho, hb⟩; obtain ⟨a2, cp2, rfl⟩ := ho.sl.len; have HOd := Lib.hid ho; have HBd := Lib.hid hb; clear ho hb)
          | (at_builtin; refine wpList_append_l1 rfl (.tmp 17) (.tmp 20) 47 22 rfl Try.underlying47 info_sl _ us ((htx.own.below HBd.out (Nat.le_refl _)).alloc _) rfl wd.heap.size (.slice a2 _ cp2) rfl (cell_new1 _ _ _) rfl HVL.out ?_; intro v2 w2 ho hg hat; have HO2 := Lib.hid (Outs.more HLT2.out htx HNT.out HO.out.new HO.out.below HOd.out HBd.out hg ho hat); clear ho hg hat))
        refine ⟨⟨k + 1, by omega, by go_num, ?_⟩, by simp [intOf]; omega⟩
        rw [HNX.out]
        exact HO2
      · obtain rfl : k = N := by omega
        go_wp2
        go_ret
        obtain ⟨us, hu, hn⟩ := HO.out.tx
        rw [HL.out, List.take_length] at hu
        exact ⟨_, us, rfl, hu, ⟨HO.out.new, hn⟩, HO.out.below⟩
end Go.Proofs.Ytdnjjemdnlegdaa
namespace Go.Proofs.Ytdnjjemdnlegdaa
set_option linter.unusedVariables false
set_option linter.unusedSimpArgs false
open Go Go.RowKit
namespace Slo
/-- So far the bytes tell these texts. -/
def Reach (b : List (BitVec 8)) (ts : List (List (BitVec 8))) : Prop :=
  128 * used ts ≤ b.length ∧ ∀ f, ts.length ≤ f → parse f b = (ts ++ (parse (f - ts.length) (b.drop (128 * used ts))).1, (parse (f - ts.length) (b.drop (128 * used ts))).2)
theorem Reach.nil (b : List (BitVec 8)) : Reach b [] := ⟨by simp [used], fun f _ => by simp [used]⟩
theorem Reach.next {b t : List (BitVec 8)} {ts : List (List (BitVec 8))} (h : Reach b ts) (hlt : 128 * used ts < b.length) (hs : slot (b.drop (128 * used ts)) = .text t) : Reach b (ts ++ [t]) := by
  obtain ⟨_, _, h2, h3, _⟩ := slot_text hs
  rw [List.length_drop] at h3
  have hu : used (ts ++ [t]) = used ts + taken t.length := by rw [used_append]; simp [used]
  refine ⟨by rw [hu]; omega, fun f hf => ?_⟩
  rw [List.length_append, List.length_cons, List.length_nil] at hf
  obtain ⟨k, hk⟩ : ∃ k, f - ts.length = k + 1 := ⟨f - ts.length - 1, by omega⟩
  have hne : b.drop (128 * used ts) ≠ [] := by intro e; have := congrArg List.length e; simp at this; omega
  rw [h.2 f (by omega), hk, parse_text _ _ _ hne hs, List.drop_drop, hu]
  rw [show f - (ts ++ [t]).length = k by simp; omega, show 128 * used ts + 128 * taken t.length = 128 * (used ts + taken t.length) by omega]
  simp
theorem Reach.no {b : List (BitVec 8)} {ts : List (List (BitVec 8))} (h : Reach b ts) (hs : slot (b.drop (128 * used ts)) = .no ∨ b.length ≤ 128 * used ts) (n : Nat) (hn : ts.length ≤ n) : parse n b = (ts, true) := by
  rw [h.2 n hn]
  rcases hs with hs | hs
  · rw [parse_no _ _ hs]; simp
  · rw [List.drop_of_length_le hs, parse_nil]; simp
theorem Reach.bad {b : List (BitVec 8)} {ts : List (List (BitVec 8))} (h : Reach b ts) (hlt : 128 * used ts < b.length) (hs : slot (b.drop (128 * used ts)) = .bad) (n : Nat) (hn : ts.length < n) : parse n b = (ts, false) := by
  have hne : b.drop (128 * used ts) ≠ [] := by intro e; have := congrArg List.length e; simp at this; omega
  obtain ⟨k, hk⟩ : ∃ k, n - ts.length = k + 1 := ⟨n - ts.length - 1, by omega⟩
  rw [h.2 n (by omega), hk, parse_bad _ _ hne hs]; simp
end Slo

section
variable {F : Fence} {n : Nat} {P : Program} {σ : Type}
/-- What a round leaves to the iterator: its cell b0, the block g, and whatever it has laid from B on. -/
structure Spares (B b0 g : Nat) (W W' : World) : Prop where
  size : W.heap.size ≤ W'.heap.size
  cap : W'.heap[b0]? = W.heap[b0]?
  data : W'.heap[g]? = W.heap[g]?
  new : ∀ k, B ≤ k → k < W.heap.size → W'.heap[k]? = W.heap[k]?
theorem Spares.trans {B b0 g : Nat} {X Y Z : World} (h : Spares B b0 g X Y) (k : Spares B b0 g Y Z) : Spares B b0 g X Z :=
  ⟨Nat.le_trans h.size k.size, k.cap.trans h.cap, k.data.trans h.data, fun i h1 h2 => (k.new i h1 (Nat.lt_of_lt_of_le h2 h.size)).trans (h.new i h1 h2)⟩
theorem Spares.put {B b0 g l : Nat} (W : World) (o : Obj) (h0 : b0 ≠ l) (h1 : g ≠ l) (h2 : l < B) : Spares B b0 g W (W.putObj l o) :=
  ⟨by simp, World.putObj_heap_other h0, World.putObj_heap_other h1, fun k hk _ => World.putObj_heap_other (by omega)⟩
theorem Spares.alloc {B b0 g : Nat} (W : World) (o : Obj) (h0 : b0 < W.heap.size) (h1 : g < W.heap.size) : Spares B b0 g W (W.alloc o) :=
  ⟨by simp, Below.heap_alloc _ _ _ h0, Below.heap_alloc _ _ _ h1, fun k _ hk => Below.heap_alloc _ _ _ hk⟩
theorem grownBy_none_trans {X Y Z : World} (h : X.grownBy Y none) (k : Y.grownBy Z none) : X.grownBy Z none :=
  ⟨k.os.trans h.os, k.tape.trans h.tape, k.output.trans h.output, Nat.le_trans h.size k.size, fun i hi hn => (k.block i (Nat.lt_of_lt_of_le hi h.size) hn).trans (h.block i hi hn)⟩
theorem grownBy_put {W W' : World} (h : W.grownBy W' none) (l : Nat) (o : Obj) (hl : l < W.heap.size) : (W.putObj l o).grownBy (W'.putObj l o) none :=
  ⟨h.os, h.tape, h.output, by simpa using h.size, fun k hk hn => by
    rw [World.putObj_size] at hk
    by_cases e : k = l
    · subst e
      rw [World.putObj_heap_same hl, World.putObj_heap_same (Nat.lt_of_lt_of_le hl h.size)]
    · rw [World.putObj_heap_other e, World.putObj_heap_other e]
      exact h.block k hk hn⟩

/-- The contract of an iterator that keeps its place in the cell b0: s is the caller's place; R: what may come, T: where it leads. -/
def SeqCap (F : Fence) (n : Nat) (P : Program) (gf : Nat) (lb : Array Value) (b0 g : Nat) (s0 : σ) (R : σ → Array Value → Prop) (T : σ → Array Value → σ → Prop) (S Sp : σ → Prop) (w : World) : Prop :=
  ∀ (l : Nat) (J Jx : σ → World → Prop) (W : World), Below w.heap.size w W → AbidesFrom W.heap.size J → AbidesFrom W.heap.size Jx →
    (∀ s W v, J s W → J s (W.setCell ⟨b0, 0, none⟩ v)) → (∀ s W v, Jx s W → Jx s (W.setCell ⟨b0, 0, none⟩ v)) →
    (∀ s x W0 W1, J s W0 → W0.grownBy W1 none → R s x → YieldAt F (n - 1) P l x W1 fun e W' => (e = .returned (.bool true) ∧ (∃ s', T s x s' ∧ J s' W') ∧ Spares W0.heap.size b0 g W1 W') ∨ (e = .returned (.bool false) ∧ Sp s ∧ Jx s W')) →
    J s0 W → CallsIn F n P gf (#[.func (.yield l) #[] #[]] ++ lb) W fun e W' => (∃ v, e = .returned v) ∧ ((∃ s, S s ∧ J s W') ∨ (∃ s, Sp s ∧ Jx s W'))

/-- A loop's two blocks: the rounds' deferred calls at D, the record behind. -/
structure Two (D : Nat) (r : Loop) (W : World) : Prop where
  col : W.heap[D]? = some (.deferred (some []))
  lp : W.heap[D + 1]? = some (.loop r)
theorem Two.lt {D : Nat} {r : Loop} {W : World} (h : Two D r W) : D + 1 < W.heap.size := (Array.getElem?_eq_some_iff.1 h.lp).1
theorem Two.walk {D B : Nat} {r : Loop} {W W' : World} {row : Option Nat} (h : Two D r W) (hg : W.grownBy W' row) (hr : ∀ r, row = some r → B ≤ r ∧ ∃ o : Obj, W.heap[r]? = some o ∧ o.isWalk = true) : Two D r W' :=
  ⟨(grownBy_keeps hg (fun r e => (hr r e).2) h.col rfl).trans h.col, (grownBy_keeps hg (fun r e => (hr r e).2) h.lp rfl).trans h.lp⟩
theorem Two.cell {D b0 : Nat} {r : Loop} {W : World} (h : Two D r W) (hb : b0 < D) (v : Value) : Two D r (W.setCell ⟨b0, 0, none⟩ v) :=
  ⟨(heap_setCell_other W ⟨b0, 0, none⟩ D v (by simp; omega)).trans h.col, (heap_setCell_other W ⟨b0, 0, none⟩ (D + 1) v (by simp; omega)).trans h.lp⟩
theorem Two.keep {D : Nat} {r : Loop} {W W' : World} (h : Two D r W) (hk : KeepsFrom D W W') : Two D r W' :=
  ⟨hk.same _ _ (Nat.le_refl _) h.col rfl, hk.same _ _ (by omega) h.lp rfl⟩
theorem Two.put {D : Nat} {r r' : Loop} {W : World} (h : Two D r W) : Two D r' (W.putObj (D + 1) (.loop r')) :=
  ⟨(World.putObj_heap_other (by omega)).trans h.col, World.putObj_heap_same h.lt⟩

/-- How the body of a round may be left: on, to the next place; or by return. -/
def capPost (D B b0 g : Nat) (I Ix : σ → World → Prop) (T : σ → Array Value → σ → Prop) (Sp : σ → Prop) (s : σ) (x : Array Value) (W : World) : Exit → Act → World → Prop
  | .normal, _, W' => KeepsFrom D W W' ∧ Spares B b0 g W W' ∧ ∃ s', T s x s' ∧ I s' W'
  | .ret, _, W' => KeepsFrom D W W' ∧ Sp s ∧ Ix s W'
  | _, _, _ => False

theorem wpIn_rangeFunc_cap {g : Operand} {ps : Array Tmp} {assign body : Code} {Q : Exit → Act → World → Prop} {a : Act} {w w0 : World}
    (hro : F.round = none) (h1 : 1 ≤ n) {gf b0 gd : Nat} {lb : Array Value} (hg : a.eval g = .func (.func gf) #[] lb) (hFg : F.fn gf) (eg : ∀ args w, (callFunc gf args).run P w = .ok (.enter gf args) w)
    {s0 : σ} {R : σ → Array Value → Prop} {T : σ → Array Value → σ → Prop} {S Sp : σ → Prop} (hseq : SeqCap F (n - 1) P gf lb b0 gd s0 R T S Sp w0) (hb0 : b0 < w.heap.size) (hgd : gd < w.heap.size) (hbw : Below w0.heap.size w0 w)
    (hps : ∀ s x, R s x → x.size = ps.size)
    (I Ix : σ → World → Prop) (hI : OwnFrom w.heap.size I) (hIx : OwnFrom w.heap.size Ix) (hIc : ∀ s W v, I s W → I s (W.setCell ⟨b0, 0, none⟩ v)) (hIxc : ∀ s W v, Ix s W → Ix s (W.setCell ⟨b0, 0, none⟩ v)) (h0 : I s0 w) (xc : Array Value → Array Value) (tx : TypeId) (a₁ : Nat → Array Value → Act)
    (hassign : ∀ (l : Nat) (s : σ) (x : Array Value) (W : World) (K : Act → World → Prop), R s x → K (a₁ W.heap.size x) (W.alloc (.cells (xc x) tx)) →
      assign.wpIn (F.inRound l) (n - 1 - 1) P (Exit.then K (fun _ _ _ => False)) { tmps := (ps.zip x).foldl (fun t (p, v) => t.setIfInBounds p v) a.tmps, defers := [] } W)
    (hbody : ∀ (l m : Nat) (s : σ) (x : Array Value) (W0 W : World), R s x → I s W0 → W0.grownBy W none → w.heap.size + 2 ≤ W0.heap.size → W0.heap.size ≤ m → W.heap[m]? = some (.cells (xc x) tx (0, 0)) →
      body.wpIn (F.inRound l) (n - 1 - 1) P (capPost w.heap.size W0.heap.size b0 gd I Ix T Sp s x W) (a₁ m x) W)
    (hdone : ∀ (s : σ) (W : World), S s → I s W → W.heap[w.heap.size]? = some (.deferred (some [])) → Q .normal { a with defers := { target := .collected w.heap.size, args := #[] } :: a.defers } W)
    (hstop : ∀ (s : σ) (W : World), Sp s → Ix s W → W.heap[w.heap.size]? = some (.deferred (some [])) → Code.ret.wpIn F n P Q { a with defers := { target := .collected w.heap.size, args := #[] } :: a.defers } W) :
    (Code.rangeFunc g ps assign body).wpIn F n P Q a w := by
  refine wpIn_rangeFunc fun fn hfn => ?_
  rw [hro]
  obtain ⟨D, hD⟩ : ∃ D, w.heap.size = D := ⟨_, rfl⟩
  rw [hD] at hb0 hgd hI hIx hbody hdone hstop
  obtain ⟨rs, hrs⟩ : ∃ rs : LoopState → Option Code → Loop, rs = fun st pe => { state := st, pending := pe, fn := fn, tmps := a.tmps, params := ps, assign := assign, body := body, defers := D } := ⟨_, rfl⟩
  have hT0 : Two D (rs .ready none) ((w.alloc (.deferred (some []))).alloc (.loop (rs .ready none))) := by
    refine ⟨?_, ?_⟩
    · rw [Below.heap_alloc _ _ _ (by simp; omega), ← hD]
      exact World.alloc_heap_new w _
    · have := World.alloc_heap_new (w.alloc (.deferred (some []))) (.loop (rs .ready none))
      rwa [World.size_alloc, hD] at this
  have hI0 : I s0 ((w.alloc (.deferred (some []))).alloc (.loop (rs .ready none))) := hI.alloc _ (hI.alloc _ h0)
  have hB0 : Below w0.heap.size w0 ((w.alloc (.deferred (some []))).alloc (.loop (rs .ready none))) := hbw.trans ((((Below.refl _ w).alloc (Nat.le_refl _) _).alloc (by simp) _).mono hbw.size)
  obtain ⟨W1, hW1⟩ : ∃ W1, (w.alloc (.deferred (some []))).alloc (.loop (rs .ready none)) = W1 := ⟨_, rfl⟩
  rw [hW1] at hT0 hI0 hB0
  refine ⟨D + 1, [{ target := .collected D, args := #[] }], W1, { target := .fn (.func gf) lb, args := #[.func (.yield (D + 1)) #[] #[]] }, W1, gf, #[.func (.yield (D + 1)) #[] #[]] ++ lb, W1, ?_, ?_, ?_, ?_, fun _ => h1, ?_⟩
  · rw [← hW1, hrs, ← hD]
    exact run_enterLoop_outer _ _ _ _ _
  · simp only [resolve, hg]
    simp [go_sem]
  · intro f' hf'
    simp [Target.leads] at hf'
    exact hf' ▸ hFg
  · simp [invoke, go_sem, eg]
  have hsz : D ≤ W1.heap.size := by have := hT0.lt; omega
  have hab : ∀ {K : σ → World → Prop} (r : Loop), OwnFrom D K → AbidesFrom W1.heap.size fun s W => K s W ∧ Two D r W := fun r hK s A B row hs hg' hr =>
    ⟨hK s A B row hs.1 hg' fun k e => by obtain ⟨h1, o, ho, hw⟩ := hr k e; exact ⟨by omega, o, ho, Obj.not_cells_of_walk hw⟩, hs.2.walk hg' hr⟩
  refine (hseq (D + 1) (fun s W => I s W ∧ Two D (rs .ready none) W) (fun s W => Ix s W ∧ Two D (rs .done (some .ret)) W) W1 hB0 (hab _ hI) (hab _ hIx)
    (fun s W v h => ⟨hIc s W v h.1, h.2.cell hb0 v⟩) (fun s W v h => ⟨hIxc s W v h.1, h.2.cell hb0 v⟩) ?_ ⟨hI0, hT0⟩).mono ?_
  · rintro s x W0 W ⟨hi0, ht0⟩ hgr hR
    obtain ⟨W2, hW2⟩ : ∃ W2, W.alloc (.cells (xc x) tx) = W2 := ⟨_, rfl⟩
    have hg2 : W.grownBy W2 none := by rw [← hW2]; exact World.grownBy_alloc W _ none
    have hn2 : W2.heap[W.heap.size]? = some (.cells (xc x) tx (0, 0)) := by rw [← hW2]; exact World.alloc_heap_new W _
    have ht : Two D (rs .ready none) W := ht0.walk (B := 0) hgr (fun r e => by cases e)
    have ht2 : Two D (rs .ready none) W2 := ht.walk (B := 0) hg2 (fun r e => by cases e)
    have hgr2 : W0.grownBy W2 none := grownBy_none_trans hgr hg2
    have h0lt := ht0.lt
    have hgs := hgr.size
    have hy := run_yield (P := P) (args := x) ht.lp (by rw [hrs]; exact hps s x hR)
    rw [hrs] at hy
    refine ⟨fn, _, assign, body, hy, roundIn_of_wpIn hfn (hassign _ s x W _ hR ?_)⟩
    rw [hW2]
    refine ⟨_, run_beginRound ht2.lp (by rw [hrs]), ?_⟩
    have hbz : ({ rs .ready none with state := .busy } : Loop) = rs .busy none := by rw [hrs]
    rw [hbz]
    have htb : Two D (rs .busy none) (W2.putObj (D + 1) (.loop (rs .busy none))) := ht2.put
    have hsp : Spares W0.heap.size b0 gd W (W2.putObj (D + 1) (.loop (rs .busy none))) := by
      refine Spares.trans ?_ (Spares.put W2 _ (by omega) (by omega) h0lt)
      rw [← hW2]
      exact Spares.alloc W _ (by omega) (by omega)
    have hend : ∀ (jump : Option Code) (W3 : World), Two D (rs .busy none) W3 → (Instr.endRound (D + 1) jump).run P W3 = .ok (.bool jump.isNone) (W3.putObj (D + 1) (.loop (rs (if jump.isNone then .ready else .done) jump))) := fun jump W3 h3 => by
      have := run_endRound (P := P) jump h3.lp
      rw [hrs] at this ⊢
      exact this
    have hbd := hbody (D + 1) W.heap.size s x (W0.putObj (D + 1) (.loop (rs .busy none))) (W2.putObj (D + 1) (.loop (rs .busy none))) hR (hI.putObj _ hi0 (by omega) ht0.lp rfl) (grownBy_put hgr2 _ _ h0lt) (by simp; omega) (by simpa using hgs) ((World.putObj_heap_other (by omega)).trans hn2)
    rw [World.putObj_size] at hbd
    refine wpIn_mono hbd ?_
    intro e a3 W3 hp
    match e, hp with
    | .normal, hp =>
      obtain ⟨hk, hkp, s', hT, hi'⟩ := hp
      have ht3 := htb.keep hk
      exact ⟨_, _, hend none W3 ht3, .inl ⟨rfl, ⟨s', hT, hI.putObj _ hi' (by omega) ht3.lp rfl, ht3.put⟩, (hsp.trans hkp).trans (Spares.put W3 _ (by omega) (by omega) h0lt)⟩⟩
    | .ret, hp =>
      obtain ⟨hk, hsp, hix⟩ := hp
      have ht3 := htb.keep hk
      exact ⟨_, _, hend (some .ret) W3 ht3, .inr ⟨rfl, hsp, hIx.putObj _ hix (by omega) ht3.lp rfl, ht3.put⟩⟩
    | .exit _, hp => exact hp.elim
    | .goto _, hp => exact hp.elim
    | .panic _, hp => exact hp.elim
    | .outgrown, hp => exact hp.elim
  · rintro e W2 ⟨⟨v, rfl⟩, h⟩
    rcases h with ⟨s, hS, hi, ht⟩ | ⟨s, hS, hi, ht⟩
    · have he := run_endLoop (P := P) ht.lp (by rw [hrs]; simp)
      rw [hrs] at he
      exact ⟨none, _, he, hdone s _ hS (hI.putObj _ hi (by omega) ht.lp rfl) ((World.putObj_heap_other (by omega)).trans ht.col)⟩
    · have he := run_endLoop (P := P) ht.lp (by rw [hrs]; simp)
      rw [hrs] at he
      exact ⟨some .ret, _, he, hstop s _ hS (hIx.putObj _ hi (by omega) ht.lp rfl) ((World.putObj_heap_other (by omega)).trans ht.col)⟩
end
end Go.Proofs.Ytdnjjemdnlegdaa
namespace Go.Proofs.Ytdnjjemdnlegdaa
set_option linter.unusedVariables false
set_option linter.unusedSimpArgs false
open Go Go.RowKit
section
variable {P : Program} {ops : Array Oper} {Q : Exit → Act → World → Prop} {md : Region.Mode} {l n : Nat}
theorem Calls.inR {f : FuncId} {args : Array Value} {w : World} {R : Ending → World → Prop} (l n : Nat) (h : Calls P f args w R) : CallsIn (Fence.wide.inRound l) n P f args w R := CallsIn.inRound l (callsIn_wide.2 h)
def noDefer (ops : Array Oper) : Bool := ops.all fun o => match o.op with | .defer _ => false | _ => true
theorem noDefer_at {i : Nat} {o : Oper} (h : noDefer ops = true) (hi : ops[i]? = some o) : ∀ c, o.op ≠ .defer c := by
  intro c e
  obtain ⟨hlt, rfl⟩ := Array.getElem?_eq_some_iff.1 hi
  have := (Array.all_eq_true.1 h) i hlt
  rw [e] at this
  cases this
theorem opIn_of_op {o : Oper} {K : Act → World → Prop} {a : Act} {w : World} (hd : ∀ c, o.op ≠ .defer c) (h : o.wp P a w K Q) : o.wpIn (Fence.wide.inRound l) n P a w K Q := by
  unfold Oper.wp at h
  refine ⟨fun _ _ => trivial, ?_⟩
  rw [show (Fence.wide.inRound l).round = some l from rfl, Oper.semAt_some l _ _ hd]
  generalize (execOp a.eval o).run P w = r at *
  cases r with
  | ok x w' =>
    cases x <;> simp only [Oper.upon, Oper.uponIn] at h ⊢ <;>
      first
        | exact h
        | exact ⟨fun e => (by cases e), Calls.inR l _ h⟩
        | exact ⟨fun e => (by cases e), fun c cs _ => by obtain ⟨v, w'', hr, hs⟩ := h c cs; exact ⟨v, w'', hr, stepsIn_wide.2 hs⟩⟩
  | halt x w' => cases x <;> simp only [Oper.upon, Oper.uponIn] at h ⊢ <;> exact h
theorem wpAnyIn_of_wpAny (hd : noDefer ops = true) (hno : ¬ LetsOut Q) : ∀ (fuel : Nat) (listed : Array Bool) (a : Act) (w : World), wpAny P md ops Q fuel listed a w → wpAnyIn (Fence.wide.inRound l) n P md ops Q fuel listed a w
  | 0, _, _, _, h => h
  | fuel + 1, listed, a, w, h => ⟨h.1, fun i hi => by
      have h1 := h.2 i hi
      unfold wpOp at h1
      unfold wpOpIn
      split
      · rename_i he
        rw [he] at h1
        exact wpAnyIn_of_wpAny hd hno fuel _ a w h1
      · rename_i o ho
        simp only [ho] at h1
        split
        · rename_i hw
          rw [if_pos hw] at h1
          refine Oper.wpIn_mono (fun a' w' h' => wpAnyIn_of_wpAny hd hno fuel _ a' w' h') ?_
          exact opIn_of_op (noDefer_at hd ho) (h1.resolve_right fun h2 => hno h2.2)
        · rename_i hw
          rw [if_neg hw] at h1
          exact ⟨fun _ _ => trivial, wpAnyIn_of_wpAny hd hno fuel _ _ w h1⟩⟩
theorem wpIn_region_held {id : Nat} {S : World → Prop} {a : Act} {w : World} (hm : P.follows .mixedOrders = true) (hd : noDefer ops = true) (hno : ¬ LetsOut Q) (hS : S w.drew)
    (h : S w.drew → wpAnyH P .any ops Q S ops.size (Array.replicate ops.size false) a w.drew) : (Code.region id ops true).wpIn (Fence.wide.inRound l) n P Q a w :=
  wpIn_region_any hm (wpAnyIn_of_wpAny hd hno _ _ _ _ (wpAny_of_held _ _ _ _ (h hS)))
end
end Go.Proofs.Ytdnjjemdnlegdaa
namespace Go.Proofs.Ytdnjjemdnlegdaa
set_option linter.unusedVariables false
set_option linter.unusedSimpArgs false
open Go Go.RowKit Go.Shelf
attribute [local go_sem] Oper.semAt_some

/-- slots.all(b): b is boxed; the function value captures the box. -/
theorem all_box (a : Option Addr) (len cap : Nat) (w : World) : Calls Try.prog 55 #[.slice a len cap] w fun e w' =>
    e = .returned (.func (.func 65) #[] #[.pointer (some ⟨w.heap.size, 0, none⟩)]) ∧ Below w.heap.size w w' ∧ w'.heap.size = w.heap.size + 1 ∧ w'.heap[w.heap.size]? = some (.cells #[.slice a len cap] 22 (0, 0)) := by
  obtain ⟨W, hW, h1, h2, h3⟩ := alloc1 w (.cells #[.slice a len cap] 22)
  have HX := Lib.hid (And.intro hW (And.intro h1 (And.intro h2 h3)))
  clear hW h1 h2 h3
  go_enter Try.func55, Try.ntmps55
  go_wp2
  go_ret
  obtain ⟨hW, h1, h2, h3⟩ := HX.out
  rw [hW]
  exact ⟨rfl, h1, h2, h3⟩

/-- What comes of the place ts: the slot behind the texts ts of the bytes b. -/
def SlR (b : List (BitVec 8)) (g o cap : Nat) (ts : List (List (BitVec 8))) (x : Array Value) : Prop :=
  Slo.Reach b ts ∧ 128 * Slo.used ts < b.length ∧ foundB (Slo.slot (b.drop (128 * Slo.used ts))) = true ∧ x = #[.agg (foundV g (o + 128 * Slo.used ts) (cap - 128 * Slo.used ts) (Slo.slot (b.drop (128 * Slo.used ts))))]
def SlT (b : List (BitVec 8)) (ts : List (List (BitVec 8))) (_ : Array Value) (ts' : List (List (BitVec 8))) : Prop := ∃ t, Slo.slot (b.drop (128 * Slo.used ts)) = .text t ∧ ts' = ts ++ [t]
theorem grown_of_below {w w' : World} {B : Nat} (h : Below B w w') (hB : w.heap.size ≤ B) : w.grownBy w' none := ⟨h.os, h.tape, h.output, h.size, fun k hk _ => h.block k (by omega)⟩
theorem below_of_grown {w w' : World} (h : w.grownBy w' none) : Below w.heap.size w w' := ⟨h.os, h.tape, h.output, h.size, fun k hk => h.block k hk (by simp)⟩
theorem box_cell {w : World} {b0 : Nat} {v : Value} (h : w.heap[b0]? = some (.cells #[v] 22 (0, 0))) : w.cell? ⟨b0, 0, none⟩ = some v ∧ w.frozen? ⟨b0, 0, none⟩ = false := ⟨cell_of_row w b0 0 _ _ _ h, frozen_of_row w b0 0 _ _ h⟩
theorem SlB.blk {w w' : World} {g o len cap : Nat} {xs : List (BitVec 8)} (h : SlB w (.slice (some ⟨g, o, none⟩) len cap) xs) (hb : w'.heap[g]? = w.heap[g]?) (hs : w.heap.size ≤ w'.heap.size) : SlB w' (.slice (some ⟨g, o, none⟩) len cap) xs := by
  rcases h with h | ⟨b', off', cap', e, h1, h2, h3, h4⟩
  · exact .inl h
  · simp only [Value.slice.injEq, Option.some.injEq, Addr.mk.injEq] at e
    obtain ⟨⟨rfl, rfl, _⟩, rfl, rfl⟩ := e
    exact .inr ⟨g, o, cap, rfl, h1, h2, Nat.lt_of_lt_of_le h3 hs, fun j hj => (World.cell?_of_block (a := ⟨g, o + j, none⟩) hb).trans (h4 j hj)⟩

set_option maxRecDepth 100000 in
set_option maxHeartbeats 4000000 in
theorem all1_in (n l b0 g o cap m : Nat) (hn : 2 ≤ n) (b : List (BitVec 8)) (hm : b.length = 128 * m) (hm0 : m ≤ 20000) (hlc : b.length ≤ cap) (hne : b0 ≠ g) (J Jx : List (List (BitVec 8)) → World → Prop)
    (W : World) (hJ : AbidesFrom W.heap.size J) (hJc : ∀ s W v, J s W → J s (W.setCell ⟨b0, 0, none⟩ v))
    (hY : ∀ s x W0 W1, J s W0 → W0.grownBy W1 none → SlR b g o cap s x → YieldAt Fence.wide (n - 1) Try.prog l x W1 fun e W' => (e = .returned (.bool true) ∧ (∃ s', SlT b s x s' ∧ J s' W') ∧ Spares W0.heap.size b0 g W1 W') ∨ (e = .returned (.bool false) ∧ Slo.parse m b = (s, false) ∧ Jx s W'))
    (hb0 : W.heap[b0]? = some (.cells #[.slice (some ⟨g, o, none⟩) b.length cap] 22 (0, 0))) (hs : SlB W (.slice (some ⟨g, o, none⟩) b.length cap) b) (h0 : J [] W) :
    CallsIn Fence.wide n Try.prog 65 #[.func (.yield l) #[] #[], .pointer (some ⟨b0, 0, none⟩)] W fun e W' => (∃ v, e = .returned v) ∧
      ((∃ s, Slo.parse m b = (s, true) ∧ J s W') ∨ (∃ s, Slo.parse m b = (s, false) ∧ Jx s W')) := by
  refine callsIn_of_wp Try.func65 rfl trivial ?_ rfl
  simp only [Try.ntmps65, List.size_toArray, List.length_cons, List.length_nil, Nat.reduceAdd, Nat.reduceSub, Array.replicate_succ, Array.replicate_zero, List.push_toArray, List.append_toArray, List.nil_append, List.cons_append]
  gi_wp2
  gi_loopw [4] (fun _ wr => ∃ (ts : List (List (BitVec 8))) (V : Value), Hid (J ts wr) ∧ Hid (Slo.Reach b ts) ∧ Hid (W.heap.size ≤ wr.heap.size) ∧ Hid (wr.heap[g]? = W.heap[g]?) ∧ Hid (wr.heap[b0]? = some (.cells #[V] 22 (0, 0))) ∧
      ((128 * Slo.used ts < b.length ∧ V = .slice (some ⟨g, o + 128 * Slo.used ts, none⟩) (b.length - 128 * Slo.used ts) (cap - 128 * Slo.used ts)) ∨ (b.length ≤ 128 * Slo.used ts ∧ ∃ a c, V = .slice a 0 c)))
    (fun _ wr => match wr.cell? ⟨b0, 0, none⟩ with | some (.slice _ n _) => n | _ => 0)
  case atStart =>
    refine ⟨[], _, Lib.hid h0, Lib.hid (Slo.Reach.nil b), Lib.hid (Nat.le_refl _), Lib.hid rfl, Lib.hid hb0, ?_⟩
    by_cases hz : b.length = 0
    · exact .inr ⟨by simp [Slo.used, hz], _, _, by rw [hz]⟩
    · exact .inl ⟨by simp [Slo.used]; omega, by simp [Slo.used]⟩
  case round =>
    obtain ⟨ts, V, HJ, HR, HZ, HG, HB, hV⟩ := hrel
    obtain ⟨cB, fB⟩ := box_cell HB.out
    rcases hV with ⟨hlt, rfl⟩ | ⟨hle, a, c, rfl⟩
    · have HLT := Lib.hid hlt
      have hdl : (b.drop (128 * Slo.used ts)).length = b.length - 128 * Slo.used ts := List.length_drop
      have hsb : SlB wr (.slice (some ⟨g, o + 128 * Slo.used ts, none⟩) (b.length - 128 * Slo.used ts) (cap - 128 * Slo.used ts)) (b.drop (128 * Slo.used ts)) := (hs.blk HG.out HZ.out).drop (128 * Slo.used ts) (by omega)
      have hu := HR.out.1
      have HSL := Lib.hid (slot_any (b.drop (128 * Slo.used ts)) g (o + 128 * Slo.used ts) (b.length - 128 * Slo.used ts) (cap - 128 * Slo.used ts) wr hsb (by omega) (by omega))
      have hfl : g < wr.heap.size ∧ b0 < wr.heap.size := ⟨(show g < wr.heap.size from by rcases hsb with ⟨⟨a, e⟩, _⟩ | ⟨b', off', cap', e, _, _, h, _⟩ <;> simp at e <;> omega), (Array.getElem?_eq_some_iff.1 HB.out).1⟩
      have HFL := Lib.hid hfl
      obtain ⟨F, hF⟩ : ∃ F, Slo.slot (b.drop (128 * Slo.used ts)) = F := ⟨_, rfl⟩
      rw [hF] at HSL
      have HF := Lib.hid hF
      obtain ⟨L, hL⟩ : ∃ L, b.length - 128 * Slo.used ts = L := ⟨_, rfl⟩
      obtain ⟨C, hC⟩ : ∃ C, cap - 128 * Slo.used ts = C := ⟨_, rfl⟩
      obtain ⟨O, hO⟩ : ∃ O, o + 128 * Slo.used ts = O := ⟨_, rfl⟩
      rw [hL, hC, hO] at HSL cB HB
      have HN := Lib.hid (And.intro hL (And.intro hC hO))
      have hL0 : 0 < L := by omega
      clear hlt hdl hsb hu hfl hF hL hC hO
      have hn1 : 1 ≤ n := by omega
      have HCB := Lib.hid cB
      have HIF := Lib.hid (fun (cs : Array Value) (h : cs.size = 2) => (show (Try.prog.info? 98).map (·.size) = some cs.size by rw [h]; kernel_rfl))
      rcases F with _ | _ | tx
      · simp only [foundV, foundB] at HSL
        refine wpIn_wide.2 ?_
        go_wp2_with (first
          | (go_at_call 66; refine HSL.out.mono ?_; rintro e w2 ⟨rfl, hb⟩; have HB2 := Lib.hid hb; clear hb)
          | (refine wpList_store_row rfl 98 (.tmp 3) (.tmp 11) rfl _ _ rfl rfl _ _ (heap_alloc_new _ _) (HIF.out _ rfl) rfl (by kernel_rfl) ?_; rw [World.setRow_alloc_new]))
        refine bodyPost_ret (results_none rfl _ _ _) rfl ?_
        exact ⟨⟨_, rfl⟩, .inl ⟨ts, HR.out.no (.inl HF.out) m (by have := Slo.used_ge ts; have := HR.out.1; omega), hJ ts wr _ none HJ.out (grown_of_below (HB2.out.alloc HB2.out.size _) (Nat.le_refl _)) (fun r e => by cases e)⟩⟩
      · simp only [foundV, foundB] at HSL
        gi_wp2_with (first
          | (refine ⟨trivial, ?_⟩; gi_at_call 66; refine (callsIn_wide.2 HSL.out).mono ?_; rintro e w2 ⟨rfl, hb⟩; have HB2 := Lib.hid hb; clear hb)
          | (refine wpListIn_store_row rfl 98 (.tmp 3) (.tmp 11) rfl _ _ rfl rfl _ _ (heap_alloc_new _ _) (HIF.out _ rfl) rfl (by kernel_rfl) ?_; rw [World.setRow_alloc_new]))
        obtain ⟨W1, hW1⟩ : ∃ W1, w2.alloc (.cells #[.slice none 0 0, .int .i64 9] 98) = W1 := ⟨_, rfl⟩
        rw [hW1]
        have hx : SlR b g o cap ts #[.agg #[.slice none 0 0, .int .i64 9]] := ⟨HR.out, HLT.out, by rw [HF.out]; rfl, by rw [HF.out]; rfl⟩
        obtain ⟨fn, tmps, assign, body, hy, hRn⟩ := hY ts _ wr W1 HJ.out (by rw [← hW1]; exact grown_of_below (HB2.out.alloc HB2.out.size _) (Nat.le_refl _)) hx
        rw [hy, Oper.uponIn_round]
        refine ⟨fun _ => hn1, hRn.mono ?_⟩
        rintro e W3 (⟨rfl, ⟨s', ⟨t, ht, _⟩, _⟩, _⟩ | ⟨rfl, hp, hJx⟩)
        · rw [HF.out] at ht
          cases ht
        · have HP := Lib.hid (And.intro hp hJx)
          clear hp hJx hy hRn hx hW1 HB2 HSL HB
          gi_wp2
          refine bodyPost_ret (results_none rfl _ _ _) rfl ?_
          exact ⟨⟨_, rfl⟩, .inr ⟨ts, HP.out⟩⟩
      · have hst := Slo.slot_text HF.out
        have HTX := Lib.hid (show tx.length ≤ 262144 ∧ 128 * Slo.taken tx.length ≤ L ∧ 1 ≤ Slo.taken tx.length from ⟨hst.2.2.1, by have h1 := hst.2.2.2.1; rw [List.length_drop, HN.out.1] at h1; exact h1, Slo.taken_pos _⟩)
        simp only [foundV, foundB] at HSL
        clear hst
        gi_wp2_with (first
          | (refine ⟨trivial, ?_⟩; gi_at_call 66; refine (callsIn_wide.2 HSL.out).mono ?_; rintro e w2 ⟨rfl, hb⟩; have HB2 := Lib.hid hb; clear hb)
          | (refine wpListIn_store_row rfl 98 (.tmp 3) (.tmp 11) rfl _ _ rfl rfl _ _ (heap_alloc_new _ _) (HIF.out _ rfl) rfl (by kernel_rfl) ?_; rw [World.setRow_alloc_new]))
        obtain ⟨W1, hW1⟩ : ∃ W1, w2.alloc (.cells #[.slice (some ⟨g, O + 5, none⟩) tx.length (C - 5), .int .i64 0] 98) = W1 := ⟨_, rfl⟩
        rw [hW1]
        have hx : SlR b g o cap ts #[.agg #[.slice (some ⟨g, O + 5, none⟩) tx.length (C - 5), .int .i64 0]] := ⟨HR.out, HLT.out, by rw [HF.out]; rfl, by rw [HF.out, HN.out.2.1, HN.out.2.2]; rfl⟩
        have hgr : wr.grownBy W1 none := by rw [← hW1]; exact grown_of_below (HB2.out.alloc HB2.out.size _) (Nat.le_refl _)
        have hnew : W1.heap[w2.heap.size]? = some (.cells #[.slice (some ⟨g, O + 5, none⟩) tx.length (C - 5), .int .i64 0] 98 (0, 0)) := by rw [← hW1]; exact heap_alloc_new _ _
        have hsz2 := HB2.out.size
        have hsz1 : w2.heap.size < W1.heap.size := by rw [← hW1]; simp
        obtain ⟨fn, tmps, assign, body, hy, hRn⟩ := hY ts _ wr W1 HJ.out hgr hx
        rw [hy, Oper.uponIn_round]
        refine ⟨fun _ => hn1, hRn.mono ?_⟩
        rintro e W3 (⟨rfl, ⟨s', ⟨t, ht, hs'⟩, hJ3⟩, hsp⟩ | ⟨rfl, hp, hJx⟩)
        · obtain rfl : tx = t := by rw [HF.out] at ht; injection ht
          subst hs'
          have HF3 := Lib.hid ((hsp.new _ hsz2 hsz1).trans hnew)
          have HB3 := Lib.hid ((hsp.cap.trans (hgr.block b0 HFL.out.2 (by simp))).trans HB.out)
          have HG3 := Lib.hid ((hsp.data.trans (hgr.block g HFL.out.1 (by simp))).trans HG.out)
          have HZ3 := Lib.hid (show W.heap.size ≤ W3.heap.size by have := HZ.out; have := hgr.size; have := hsp.size; omega)
          have HJ3 := Lib.hid hJ3
          have HNX := Lib.hid (HR.out.next HLT.out HF.out)
          clear hsp hJ3 hy hRn hx hW1 hgr hnew hsz2 hsz1 HB2 HSL HB
          obtain ⟨cB3, fB3⟩ := box_cell HB3.out
          have c30 : W3.cell? ⟨w2.heap.size, 0, none⟩ = some (.slice (some ⟨g, O + 5, none⟩) tx.length (C - 5)) := cell_of_row _ _ 0 _ _ _ HF3.out
          have c31 : W3.cell? ⟨w2.heap.size, 1, none⟩ = some (.int .i64 0) := cell_of_row _ _ 1 _ _ _ HF3.out
          have htx := HTX.out
          obtain ⟨N, hN⟩ : ∃ N, tx.length = N := ⟨_, rfl⟩
          obtain ⟨K, hK⟩ : ∃ K, Slo.taken N = K := ⟨_, rfl⟩
          have hti : ∀ W, Calls Try.prog 52 #[.int .i64 (N : Int)] W fun e w' => e = .returned (.int .i64 (K : Int)) ∧ w' = W := fun W => (taken_any N (by rw [hN] at htx; omega) W).mono (by rintro e w' ⟨rfl, rfl⟩; rw [hK]; exact ⟨rfl, rfl⟩)
          have HTI := Lib.hid hti
          have HLC := Lib.hid (show L ≤ C by have := HN.out; omega)
          rw [hN, hK] at htx
          have HNK := Lib.hid (And.intro hN hK)
          rw [hN] at c30 HF3 ⊢
          have hLm : L ≤ 2560000 := by have := HN.out.1; omega
          obtain ⟨E, hE⟩ : ∃ E, 128 * K = E := ⟨_, rfl⟩
          have q1 : IntKind.i64.wrap ((K : Int) * 128) = (E : Int) := by rw [IntKind.wrap_i64]; omega
          have h1 : (E : Int) ≤ L := by omega
          have h2 : E ≤ L := by omega
          have HE := Lib.hid (And.intro hE hLm)
          clear hE hLm
          have h3 : L ≤ C := HLC.out
          have HTX2 := Lib.hid htx
          clear hti hN hK htx
          gi_wp2
          refine wpIn_wide.2 ?_
          have hti := HTI.out
          go_still_tail 7, (by kernel_rfl)
          still_call (hti _)
          repeat still_step
          refine wpStill_nil ?_
          go_wp2
          obtain ⟨V, hV⟩ : ∃ V, Value.slice (if C = E then some { block := g, off := O } else some { block := g, off := O + E }) (L - E) (C - E) = V := ⟨_, rfl⟩
          rw [hV]
          have hrow : (W3.setCell ⟨b0, 0, none⟩ V).drew.heap[b0]? = some (.cells #[V] 22 (0, 0)) := heap_setCell_same W3 b0 0 _ _ V HB3.out
          have hcell : (W3.setCell ⟨b0, 0, none⟩ V).drew.cell? ⟨b0, 0, none⟩ = some V := (box_cell hrow).1
          obtain ⟨e1, e2, e3⟩ := HN.out
          obtain ⟨k1, k2⟩ := HNK.out
          obtain ⟨x1, x2⟩ := HE.out
          have x3 := HTX2.out
          have hused : Slo.used (ts ++ [tx]) = Slo.used ts + K := by rw [Slo.used_append]; simp [Slo.used, k1, k2]
          refine ⟨⟨ts ++ [tx], V, Lib.hid ?_, HNX, Lib.hid ?_, Lib.hid ?_, Lib.hid hrow, ?_⟩, ?_⟩
          · exact hJ _ _ _ none (hJc _ _ V HJ3.out) (grownBy_drew (World.grownBy.refl _ _)) (fun r e => by cases e)
          · have := HZ3.out
            simpa using this
          · exact (heap_setCell_other W3 ⟨b0, 0, none⟩ g V (fun e => hne e.symm)).trans HG3.out
          · by_cases hle : L = E
            · refine .inr ⟨by rw [hused]; omega, _, _, by rw [← hV, show L - E = 0 by omega]⟩
            · refine .inl ⟨by rw [hused]; omega, ?_⟩
              rw [← hV, if_neg (by omega), hused, show L - E = b.length - 128 * (Slo.used ts + K) by omega, show C - E = cap - 128 * (Slo.used ts + K) by omega, show O + E = o + 128 * (Slo.used ts + K) by omega]
          · rw [hcell, ← hV, HCB.out]
            show L - E < L
            omega
        · have HP := Lib.hid (And.intro hp hJx)
          clear hp hJx hy hRn hx hW1 HB2 HSL HB
          gi_wp2
          refine bodyPost_ret (results_none rfl _ _ _) rfl ?_
          exact ⟨⟨_, rfl⟩, .inr ⟨ts, HP.out⟩⟩
    · have hz := HR.out.1
      gi_wp2
      go_end0
      exact ⟨⟨_, rfl⟩, .inl ⟨ts, HR.out.no (.inr hle) m (by have := Slo.used_ge ts; omega), HJ.out⟩⟩
/-- The contract of what slots.all hands back. -/
theorem all_stops (n b0 g o cap m : Nat) (hn : 2 ≤ n) (b : List (BitVec 8)) (hm : b.length = 128 * m) (hm0 : m ≤ 20000) (hlc : b.length ≤ cap) (hne : b0 ≠ g) (w : World)
    (hb0 : w.heap[b0]? = some (.cells #[.slice (some ⟨g, o, none⟩) b.length cap] 22 (0, 0))) (hs : SlB w (.slice (some ⟨g, o, none⟩) b.length cap) b) :
    SeqCap Fence.wide n Try.prog 65 #[.pointer (some ⟨b0, 0, none⟩)] b0 g [] (SlR b g o cap) (SlT b) (fun s => Slo.parse m b = (s, true)) (fun s => Slo.parse m b = (s, false)) w := fun l J Jx W hW hJ _ hJc _ hY h0 =>
  all1_in n l b0 g o cap m hn b hm hm0 hlc hne J Jx W hJ hJc hY ((hW.block b0 (Array.getElem?_eq_some_iff.1 hb0).1).trans hb0) (hs.below hW (Nat.le_refl _)) h0
end Go.Proofs.Ytdnjjemdnlegdaa
namespace Go.Proofs.Ytdnjjemdnlegdaa
set_option linter.unusedVariables false
set_option linter.unusedSimpArgs false
open Go Go.RowKit Go.Shelf
attribute [local go_sem] Oper.semAt_some
namespace Slo
open Dk
/-- The log that is found on a disk; or why there is none. -/
def open_ (d : D) (fr n : Int) : Option L × Int :=
  if fr < 0 ∨ n < 1 ∨ ((d.b.length / 128 : Nat) : Int) < n ∨ ((d.b.length / 128 : Nat) : Int) - n < fr then (none, 2)
  else if d.off = true then (none, 12)
  else if (parse n.toNat (region d fr.toNat n.toNat)).2 = true then (some ⟨fr.toNat, n.toNat, (parse n.toNat (region d fr.toNat n.toNat)).1, used (parse n.toNat (region d fr.toNat n.toNat)).1, false⟩, 0)
  else (none, 9)
end Slo
/-- What Open returns. -/
def OpenR (w : World) (p g : Nat) (r : Option Slo.L × Int) (e : Ending) (w' : World) : Prop :=
  Below w.heap.size w w' ∧ match r.1 with
  | none => e = .returned (.tuple #[.pointer none, .int .i64 r.2])
  | some l => r.2 = 0 ∧ ∃ q vt vs, e = .returned (.tuple #[.pointer (some ⟨q, 0, none⟩), .int .i64 0]) ∧ LogAt w' q p g vt vs l ∧ w.heap.size ≤ q ∧ (∀ k, vt.ownBlock = some k → w.heap.size ≤ k) ∧ ∀ i k, (vs.getD i undef).ownBlock = some k → w.heap.size ≤ k

/-- Two cells for what a call returns. -/
theorem two_out {w W : World} {B : Nat} {x0 y0 : Value} {t u : TypeId} (hb : Below B w W) (h6 : W.heap[B]? = some (.cells #[x0] t (0, 0))) (h7 : W.heap[B + 1]? = some (.cells #[y0] u (0, 0))) (hB : B ≤ w.heap.size) (x y : Value) :
    ((W.setCell ⟨B, 0, none⟩ x).setCell ⟨B + 1, 0, none⟩ y).cell? ⟨B, 0, none⟩ = some x ∧ ((W.setCell ⟨B, 0, none⟩ x).setCell ⟨B + 1, 0, none⟩ y).cell? ⟨B + 1, 0, none⟩ = some y ∧ Below B w ((W.setCell ⟨B, 0, none⟩ x).setCell ⟨B + 1, 0, none⟩ y) := by
  have e1 : (W.setCell ⟨B, 0, none⟩ x).heap[B]? = some (.cells #[x] t (0, 0)) := heap_setCell_same W B 0 _ _ x h6
  have e2 : (W.setCell ⟨B, 0, none⟩ x).heap[B + 1]? = some (.cells #[y0] u (0, 0)) := (heap_setCell_other W ⟨B, 0, none⟩ (B + 1) x (by simp)).trans h7
  have e3 : ((W.setCell ⟨B, 0, none⟩ x).setCell ⟨B + 1, 0, none⟩ y).heap[B]? = some (.cells #[x] t (0, 0)) := (heap_setCell_other _ ⟨B + 1, 0, none⟩ B y (by simp)).trans e1
  have e4 : ((W.setCell ⟨B, 0, none⟩ x).setCell ⟨B + 1, 0, none⟩ y).heap[B + 1]? = some (.cells #[y] u (0, 0)) := heap_setCell_same _ (B + 1) 0 _ _ y e2
  exact ⟨cell_of_row _ _ 0 _ _ _ e3, cell_of_row _ _ 0 _ _ _ e4, (hb.setCell (by simp) _).setCell (by simp) _⟩

set_option maxRecDepth 100000 in
set_option maxHeartbeats 4000000 in
theorem open_arg {w : World} {p g : Nat} {d : Dk.D} (hD : DiskAt w p g d) (fr n : Int) (h0 : -9223372036854775808 ≤ n) (h1 : n ≤ 9223372036854775807) (hbad : fr < 0 ∨ n < 1 ∨ ((d.b.length / 128 : Nat) : Int) < n ∨ ((d.b.length / 128 : Nat) : Int) - n < fr) :
    Calls Try.prog 31 #[.pointer (some ⟨p, 0, none⟩), .int .i64 fr, .int .i64 n] w (OpenR w p g (none, 2)) := by
  have hp := hD.pos
  have HS := Lib.hid (fun W (hW : Below w.heap.size w W) => dk_sectors (hD.below hW (Nat.le_refl _)))
  obtain ⟨M, hM⟩ : ∃ M, d.b.length / 128 = M := ⟨_, rfl⟩
  rw [hM] at HS hbad
  have hM1 : 1 ≤ M ∧ M ≤ 16384 := by omega
  obtain ⟨W, hW, hBW, hWs, h6, h7⟩ := alloc2 w (.cells #[.pointer none] 49) (.cells #[.int .i64 0] 27)
  have HW := Lib.hid hW
  have c6 : W.cell? ⟨w.heap.size, 0, none⟩ = some (.pointer none) := cell_of_row _ _ 0 _ _ _ h6
  have c7 : W.cell? ⟨w.heap.size + 1, 0, none⟩ = some (.int .i64 0) := cell_of_row _ _ 0 _ _ _ h7
  have f6 : W.frozen? ⟨w.heap.size, 0, none⟩ = false := frozen_of_row _ _ 0 _ _ h6
  have f7 : W.frozen? ⟨w.heap.size + 1, 0, none⟩ = false := frozen_of_row _ _ 0 _ _ h7
  have HBW := Lib.hid hBW
  have HTO := Lib.hid (two_out hBW h6 h7 (Nat.le_refl _))
  have hM0 : ¬ (M : Int) = 0 := by omega
  have hM2 : M ≠ 0 := by omega
  clear hW hBW h6 h7 hD hp hM
  unfold OpenR
  refine (callsIn_wide (n := 3)).1 ?_
  have hc : fr < 0 ∨ (¬ fr < 0 ∧ n < 1) ∨ (¬ fr < 0 ∧ ¬ n < 1 ∧ (M : Int) < n) ∨ (¬ fr < 0 ∧ ¬ n < 1 ∧ ¬ (M : Int) < n ∧ (M : Int) - n < fr ∧ IntKind.i64.wrap ((M : Int) - n) = M - n) := by
    by_cases a1 : fr < 0
    · exact .inl a1
    by_cases a2 : n < 1
    · exact .inr (.inl ⟨a1, a2⟩)
    by_cases a3 : (M : Int) < n
    · exact .inr (.inr (.inl ⟨a1, a2, a3⟩))
    · exact .inr (.inr (.inr ⟨a1, a2, a3, by omega, by rw [IntKind.wrap_i64]; omega⟩))
  clear hbad
  rcases hc with k1 | ⟨k1, k2⟩ | ⟨k1, k2, k3⟩ | ⟨k1, k2, k3, k4, k5⟩
  all_goals
    refine callsIn_of_wp_marks Try.func31 rfl trivial ?_ rfl
    simp only [Try.ntmps31, List.size_toArray, List.length_cons, List.length_nil, Nat.reduceAdd, Nat.reduceSub, Array.replicate_succ, Array.replicate_zero, List.push_toArray, List.append_toArray, List.nil_append, List.cons_append]
    gi_wp2_with (refine ⟨trivial, ?_⟩; gi_at_call 27; rw [HW.out]; refine (callsIn_wide.2 (HS.out W HBW.out)).mono ?_; rintro e w' ⟨rfl, rfl⟩)
    obtain ⟨r1, r2, r3⟩ := HTO.out (.pointer none) (.int .i64 2)
    exact ⟨_, by simp [results, Try.results31, go_sem, r1, r2], r3, rfl⟩
set_option maxRecDepth 100000 in
set_option maxHeartbeats 4000000 in
theorem open_off {w : World} {p g : Nat} {d : Dk.D} (hD : DiskAt w p g d) (fr n : Int) (k1 : 0 ≤ fr) (k2 : 1 ≤ n) (k4 : fr ≤ ((d.b.length / 128 : Nat) : Int) - n) (hoff : d.off = true) :
    Calls Try.prog 31 #[.pointer (some ⟨p, 0, none⟩), .int .i64 fr, .int .i64 n] w (OpenR w p g (none, 12)) := by
  have hp := hD.pos
  have HS := Lib.hid (fun W (hW : Below w.heap.size w W) => dk_sectors (hD.below hW (Nat.le_refl _)))
  have hr : (Dk.read d fr n).2 = 12 := by
    have hh : Dk.has d fr n = true := (Dk.has_iff d fr n).2 ⟨k1, by omega, by omega, by omega⟩
    have hm : Dk.may d fr n = 12 := by unfold Dk.may; rw [if_pos hh, if_pos hoff]
    unfold Dk.read
    rw [hm]; rfl
  have HRD := Lib.hid (fun W (hW : Below w.heap.size w W) => (dk_read (hD.below hW (Nat.le_refl _)) fr n (by omega) (by omega) (by omega)).mono (R' := fun e w' => ∃ v, e = .returned (.tuple #[v, .int .i64 12]) ∧ Below W.heap.size W w') (by rintro e w' ⟨v, rfl, _, hb⟩; exact ⟨v, by rw [hr], hb⟩))
  obtain ⟨M, hM⟩ : ∃ M, d.b.length / 128 = M := ⟨_, rfl⟩
  rw [hM] at HS k4
  have hM1 : 1 ≤ M ∧ M ≤ 16384 := by omega
  obtain ⟨W, hW, hBW, hWs, h6, h7⟩ := alloc2 w (.cells #[.pointer none] 49) (.cells #[.int .i64 0] 27)
  have HW := Lib.hid hW
  have HBW := Lib.hid hBW
  have H67 := Lib.hid (And.intro h6 h7)
  have hM0 : ¬ (M : Int) = 0 := by omega
  have hM2 : M ≠ 0 := by omega
  have k0 : ¬ fr < 0 := by omega
  have k3 : ¬ n < 1 := by omega
  have k5 : ¬ (M : Int) < n := by omega
  have k6 : ¬ (M : Int) - n < fr := by omega
  have k7 : IntKind.i64.wrap ((M : Int) - n) = M - n := by rw [IntKind.wrap_i64]; omega
  clear hW hBW h6 h7 hD hp hM hr k1 k2 k4
  unfold OpenR
  refine (callsIn_wide (n := 3)).1 ?_
  refine callsIn_of_wp_marks Try.func31 rfl trivial ?_ rfl
  simp only [Try.ntmps31, List.size_toArray, List.length_cons, List.length_nil, Nat.reduceAdd, Nat.reduceSub, Array.replicate_succ, Array.replicate_zero, List.push_toArray, List.append_toArray, List.nil_append, List.cons_append]
  gi_wp2_with (first
    | (refine ⟨trivial, ?_⟩; gi_at_call 27; rw [HW.out]; refine (callsIn_wide.2 (HS.out W HBW.out)).mono ?_; rintro e w' ⟨rfl, rfl⟩)
    | (refine ⟨trivial, ?_⟩; gi_at_call 26; refine (callsIn_wide.2 (HRD.out W HBW.out)).mono ?_; rintro e w2 ⟨v, rfl, hb2⟩; have HB2 := Lib.hid (HBW.out.trans (hb2.mono HBW.out.size)); have H6 := Lib.hid ((hb2.block w.heap.size (by omega)).trans H67.out.1); have H7 := Lib.hid ((hb2.block (w.heap.size + 1) (by omega)).trans H67.out.2); clear hb2; have c6 : w2.cell? ⟨w.heap.size, 0, none⟩ = some (.pointer none) := cell_of_row _ _ 0 _ _ _ H6.out; have c7 : w2.cell? ⟨w.heap.size + 1, 0, none⟩ = some (.int .i64 0) := cell_of_row _ _ 0 _ _ _ H7.out; have f6 : w2.frozen? ⟨w.heap.size, 0, none⟩ = false := frozen_of_row _ _ 0 _ _ H6.out; have f7 : w2.frozen? ⟨w.heap.size + 1, 0, none⟩ = false := frozen_of_row _ _ 0 _ _ H7.out))
  obtain ⟨r1, r2, r3⟩ := two_out HB2.out H6.out H7.out (Nat.le_refl _) (.pointer none) (.int .i64 12)
  exact ⟨_, by simp [results, Try.results31, go_sem, r1, r2], r3, rfl⟩
end Go.Proofs.Ytdnjjemdnlegdaa
namespace Go.Proofs.Ytdnjjemdnlegdaa
set_option linter.unusedVariables false
set_option linter.unusedSimpArgs false
open Go Go.RowKit

theorem wpListIn_load_rowK {F : Fence} {n : Nat} {P : Program} {ops : Array Oper} {rest : List Oper} {o : Oper} {a : Act} {w : World} {Q : Exit → Act → World → Prop} (hgd : o.guard = none) (ty : TypeId) (x : Operand) (ho : o.op = .load ty x)
    (g : Nat) (hx : a.eval x = .pointer (some ⟨g, 0, none⟩)) (t : TypeId) (cs : Array Value) (fr : Nat × Nat) (d : TypeDesc) (hg : w.heap[g]? = some (.cells cs t fr))
    (hu : P.underlying ty = some d) (hd : (match d with | .struct _ | .array _ _ => true | _ => false) = true) (hi : (P.info? ty).map (·.size) = some cs.size)
    (h : wpListIn F n P ops Q rest (a.put o.dst (.agg cs)) w) : wpListIn F n P ops Q (o :: rest) a w := by
  refine wpListIn_plain hgd fun K hK' => ?_
  unfold Oper.wpIn
  refine ⟨?_, ?_⟩
  · simp [Oper.about, ho]
  · rw [Oper.semAt_plain F _ _ (by rw [ho]; intro c hc'; cases hc')]
    unfold execOp
    simp only [ho, hx, Instr.loadAt, Instr.sureAddr, Sem.run_bind, Sem.run_pure, Result.andThen_ok, run_loadVar_row w g t ty cs fr d hg hu hd hi]
    exact hK' _ _ h
theorem wpListIn_store_rowK {F : Fence} {n : Nat} {P : Program} {ops : Array Oper} {rest : List Oper} {o : Oper} {a : Act} {w : World} {Q : Exit → Act → World → Prop} (hgd : o.guard = none) (ty : TypeId) (x y : Operand) (ho : o.op = .store ty x y)
    (g : Nat) (cells : Array Value) (hx : a.eval x = .pointer (some ⟨g, 0, none⟩)) (hy : a.eval y = .agg cells) (t : TypeId) (old : Array Value) (hg : w.heap[g]? = some (.cells old t (0, 0)))
    (hi : (P.info? ty).map (·.size) = some cells.size) (hz : old.size = cells.size) (hall : cells.all (·.oneCell') = true)
    (h : wpListIn F n P ops Q rest (a.put o.dst undef) (w.setRow g cells)) : wpListIn F n P ops Q (o :: rest) a w := by
  refine wpListIn_plain hgd fun K hK' => ?_
  unfold Oper.wpIn
  refine ⟨?_, ?_⟩
  · simp [Oper.about, ho]
  · rw [Oper.semAt_plain F _ _ (by rw [ho]; intro c hc'; cases hc')]
    unfold execOp
    simp only [ho, hx, hy, Instr.storeAt, Instr.sureAddr, Sem.run_bind, Sem.run_pure, Result.andThen_ok, run_storeVar_row w g t ty old cells hg hi hz hall]
    exact hK' _ _ h
end Go.Proofs.Ytdnjjemdnlegdaa
namespace Go.Proofs.Ytdnjjemdnlegdaa
set_option linter.unusedVariables false
set_option linter.unusedSimpArgs false
open Go Go.RowKit

/-- The cells of the struct that is handed over. -/
def cellsOf (x : Array Value) : Array Value := match x.getD 0 undef with | .agg cs => cs | _ => #[]
section
variable {F : Fence} {n : Nat} {P : Program} {σ : Type}
/-- The same, where a struct is handed over, that is laid into a cell of its own. -/
theorem wpIn_rangeFunc_cap1 {g : Operand} {p q : Tmp} {assign body : Code} {Q : Exit → Act → World → Prop} {a : Act} {w w0 : World}
    (hro : F.round = none) (h1 : 1 ≤ n) {gf b0 gd : Nat} {lb : Array Value} (hg : a.eval g = .func (.func gf) #[] lb) (hFg : F.fn gf) (eg : ∀ args w, (callFunc gf args).run P w = .ok (.enter gf args) w)
    {s0 : σ} {R : σ → Array Value → Prop} {T : σ → Array Value → σ → Prop} {S Sp : σ → Prop} (hseq : SeqCap F (n - 1) P gf lb b0 gd s0 R T S Sp w0) (hb0 : b0 < w.heap.size) (hgd : gd < w.heap.size) (hbw : Below w0.heap.size w0 w)
    (hps : ∀ s x, R s x → x.size = 1)
    (I Ix : σ → World → Prop) (hI : OwnFrom w.heap.size I) (hIx : OwnFrom w.heap.size Ix) (hIc : ∀ s W v, I s W → I s (W.setCell ⟨b0, 0, none⟩ v)) (hIxc : ∀ s W v, Ix s W → Ix s (W.setCell ⟨b0, 0, none⟩ v)) (h0 : I s0 w) (tx : TypeId)
    (hassign : ∀ (l : Nat) (s : σ) (x : Array Value) (W : World) (K : Act → World → Prop), R s x → K { tmps := (a.tmps.setIfInBounds p (x.getD 0 undef)).setIfInBounds q (.pointer (some ⟨W.heap.size, 0, none⟩)), defers := [] } (W.alloc (.cells (cellsOf x) tx)) →
      assign.wpIn (F.inRound l) (n - 1 - 1) P (Exit.then K (fun _ _ _ => False)) { tmps := a.tmps.setIfInBounds p (x.getD 0 undef), defers := [] } W)
    (hbody : ∀ (l m : Nat) (s : σ) (x : Array Value) (W0 W : World), R s x → I s W0 → W0.grownBy W none → w.heap.size + 2 ≤ W0.heap.size → W0.heap.size ≤ m → W.heap[m]? = some (.cells (cellsOf x) tx (0, 0)) →
      body.wpIn (F.inRound l) (n - 1 - 1) P (capPost w.heap.size W0.heap.size b0 gd I Ix T Sp s x W) { tmps := (a.tmps.setIfInBounds p (x.getD 0 undef)).setIfInBounds q (.pointer (some ⟨m, 0, none⟩)), defers := [] } W)
    (hdone : ∀ (s : σ) (W : World), S s → I s W → W.heap[w.heap.size]? = some (.deferred (some [])) → Q .normal { a with defers := { target := .collected w.heap.size, args := #[] } :: a.defers } W)
    (hstop : ∀ (s : σ) (W : World), Sp s → Ix s W → W.heap[w.heap.size]? = some (.deferred (some [])) → Code.ret.wpIn F n P Q { a with defers := { target := .collected w.heap.size, args := #[] } :: a.defers } W) :
    (Code.rangeFunc g #[p] assign body).wpIn F n P Q a w := by
  refine wpIn_rangeFunc_cap hro h1 hg hFg eg hseq hb0 hgd hbw (fun s x h => hps s x h) I Ix hI hIx hIc hIxc h0 cellsOf tx (fun m x => { tmps := (a.tmps.setIfInBounds p (x.getD 0 undef)).setIfInBounds q (.pointer (some ⟨m, 0, none⟩)), defers := [] }) ?_ hbody hdone hstop
  intro l s x W K hR hK
  have hx := hps s x hR
  obtain ⟨v, rfl⟩ : ∃ v, x = #[v] := by
    match x, hx with
    | ⟨[v]⟩, _ => exact ⟨v, rfl⟩
  have h := hassign l s #[v] W K hR hK
  have e : (#[p].zip #[v]).foldl (fun t (x : Tmp × Value) => t.setIfInBounds x.1 x.2) a.tmps = a.tmps.setIfInBounds p v := by simp
  rw [show (#[v].getD 0 undef) = v from rfl, ← e] at h
  exact h
end

/-! What no turn of a block that holds no cells touches. -/
section
variable {W W' : World} {row : Option Nat}
theorem SlB.nonCells {v : Value} {xs : List (BitVec 8)} (h : SlB W v xs) (hg : W.grownBy W' row) (hr : ∀ r, row = some r → ∃ o : Obj, W.heap[r]? = some o ∧ o.isCells = false) : SlB W' v xs := by
  rcases h with h | ⟨b, off, cap, e, h1, h2, h3, h4⟩
  · exact .inl h
  · exact .inr ⟨b, off, cap, e, h1, h2, Nat.lt_of_lt_of_le h3 hg.size, fun j hj => cell_kept (h4 j hj) hg hr⟩
theorem cells_nonCells {k : Nat} {cs : Array Value} {t : TypeId} {fr : Nat × Nat} (h : W.heap[k]? = some (.cells cs t fr)) (hg : W.grownBy W' row) (hr : ∀ r, row = some r → ∃ o : Obj, W.heap[r]? = some o ∧ o.isCells = false) : W'.heap[k]? = some (.cells cs t fr) := by
  refine (hg.block k (Array.getElem?_eq_some_iff.1 h).1 fun e => ?_).trans h
  obtain ⟨o, ho, hc⟩ := hr k e.symm
  rw [h] at ho
  cases ho
  cases hc
theorem OwnL.nonCells {E base : Nat} {v : Value} {vs : List Value} (h : OwnL E base W v vs) (hg : W.grownBy W' row) (hr : ∀ r, row = some r → ∃ o : Obj, W.heap[r]? = some o ∧ o.isCells = false) : OwnL E base W' v vs := by
  refine ⟨h.1, ?_⟩
  rcases h.2 with hn | ⟨g, cap, cur, rfl, h1, hb, h2⟩
  · exact .inl hn
  · exact .inr ⟨g, cap, cur, rfl, h1, cells_nonCells hb hg hr, h2⟩
theorem Tx.nonCells {vt : Value} {ts : List (List (BitVec 8))} {vs : List Value} {l : List Nat} (h : Tx W vt ts vs l) (hg : W.grownBy W' row) (hr : ∀ r, row = some r → ∃ o : Obj, W.heap[r]? = some o ∧ o.isCells = false) : Tx W' vt ts vs l :=
  ⟨h.own.nonCells hg hr, h.len, fun i hi => (h.txt i hi).nonCells hg hr, fun i hi k e => ⟨(h.apart i hi k e).1, (h.apart i hi k e).2.1, Nat.lt_of_lt_of_le (h.apart i hi k e).2.2 hg.size⟩, h.out⟩
end

theorem KeepsFrom.ofCells {l : List Nat} {B : Nat} {W W' : World} (h : Kept l W W') (hl : ∀ k, k ∈ l → k < B ∨ ∃ cs t fr, W.heap[k]? = some (.cells cs t fr)) : KeepsFrom B W W' :=
  ⟨h.size, fun k o hB hk ho => (h.block k (Array.getElem?_eq_some_iff.1 hk).1 (fun hm => by
    rcases hl k hm with h1 | ⟨cs, t, fr, h1⟩
    · omega
    · rw [h1] at hk
      cases hk
      cases ho)).trans hk⟩
theorem OwnL.row {E base : Nat} {w : World} {v : Value} {vs : List Value} (h : OwnL E base w v vs) (k : Nat) (hk : v.ownBlock = some k) : ∃ cs t fr, w.heap[k]? = some (.cells cs t fr) := by
  rcases h.2 with ⟨rfl, _⟩ | ⟨g, cap, cur, rfl, h1, hb, h2⟩
  · simp [Value.ownBlock] at hk
  · simp [Value.ownBlock] at hk
    subst hk
    exact ⟨_, _, _, hb⟩
/-- Between two rounds of Open: the log so far lies in q; B, B + 1: the cells for what is returned; q + 1: the variable l; gd: the region's bytes; from D on: what the loop has laid. -/
structure OpI (w : World) (p g q gd D fr n cap : Nat) (b : List (BitVec 8)) (ts : List (List (BitVec 8))) (W : World) : Prop where
  log : ∃ vt vs, LogAt W q p g vt vs ⟨fr, n, ts, Slo.used ts, false⟩ ∧ (∀ k, vt.ownBlock = some k → D ≤ k) ∧ ∀ i, i < ts.length → ∀ k, (vs.getD i undef).ownBlock = some k → D ≤ k
  ret0 : W.heap[w.heap.size]? = some (.cells #[.pointer none] 49 (0, 0))
  ret1 : W.heap[w.heap.size + 1]? = some (.cells #[.int .i64 0] 27 (0, 0))
  ptr : W.heap[q + 1]? = some (.cells #[.pointer (some ⟨q, 0, none⟩)] 49 (0, 0))
  below : Below w.heap.size w W
  data : SlB W (.slice (some ⟨gd, 0, none⟩) b.length cap) b
/-- Behind a round that is left: why there is none. -/
structure OpX (w : World) (W : World) : Prop where
  ret0 : W.heap[w.heap.size]? = some (.cells #[.pointer none] 49 (0, 0))
  ret1 : W.heap[w.heap.size + 1]? = some (.cells #[.int .i64 9] 27 (0, 0))
  below : Below w.heap.size w W
section
variable {w : World} {p g q gd D fr n cap : Nat} {b : List (BitVec 8)}
theorem OpI.own (hD : w.heap.size ≤ D) : OwnFrom D (OpI w p g q gd D fr n cap b) := fun ts W W' row h hg hr => by
  have hr' : ∀ r, row = some r → ∃ o : Obj, W.heap[r]? = some o ∧ o.isCells = false := fun r e => (hr r e).2
  obtain ⟨vt, vs, hl, h1, h2⟩ := h.log
  exact ⟨⟨vt, vs, ⟨cells_nonCells hl.row hg hr', hl.ne, hl.tx.nonCells hg hr', hl.small⟩, h1, h2⟩, cells_nonCells h.ret0 hg hr', cells_nonCells h.ret1 hg hr', cells_nonCells h.ptr hg hr',
    h.below.grown hg h.below.size (fun k e => by have := (hr k e).1; omega), h.data.nonCells hg hr'⟩
theorem OpX.own (hD : w.heap.size ≤ D) : OwnFrom D (fun _ : List (List (BitVec 8)) => OpX w) := fun ts W W' row h hg hr => by
  have hr' : ∀ r, row = some r → ∃ o : Obj, W.heap[r]? = some o ∧ o.isCells = false := fun r e => (hr r e).2
  exact ⟨cells_nonCells h.ret0 hg hr', cells_nonCells h.ret1 hg hr', h.below.grown hg h.below.size (fun k e => by have := (hr k e).1; omega)⟩
theorem OpI.cell {ts : List (List (BitVec 8))} {W : World} {b0 : Nat} (h : OpI w p g q gd D fr n cap b ts W) (hb : b0 < D) (h1 : w.heap.size + 2 ≤ b0) (h2 : b0 ≠ q ∧ b0 ≠ q + 1 ∧ b0 ≠ gd) (v : Value) : OpI w p g q gd D fr n cap b ts (W.setCell ⟨b0, 0, none⟩ v) := by
  have hk : Kept [b0] W (W.setCell ⟨b0, 0, none⟩ v) := (Kept.refl [b0] W).setCell (by simp) v
  have hc : ∀ {k cs t fr}, W.heap[k]? = some (.cells cs t fr) → k ≠ b0 → (W.setCell ⟨b0, 0, none⟩ v).heap[k]? = some (.cells cs t fr) := fun h e => (heap_setCell_other W ⟨b0, 0, none⟩ _ v e).trans h
  obtain ⟨vt, vs, hl, h3, h4⟩ := h.log
  refine ⟨⟨vt, vs, ⟨hc hl.row (fun e => h2.1 e.symm), hl.ne, ⟨hl.tx.own.kept hk fun k e hm => ?_, hl.tx.len, fun i hi => (hl.tx.txt i hi).keptV hk fun k e hm => ?_, fun i hi k e => ⟨(hl.tx.apart i hi k e).1, (hl.tx.apart i hi k e).2.1, Nat.lt_of_lt_of_le (hl.tx.apart i hi k e).2.2 hk.size⟩, hl.tx.out⟩, hl.small⟩, h3, h4⟩,
    hc h.ret0 (by omega), hc h.ret1 (by omega), hc h.ptr (by omega), h.below.setCell (by show w.heap.size ≤ b0; omega) v, h.data.keptV hk fun k e => ?_⟩
  · have := h3 k e
    simp at hm
    omega
  · have := h4 i hi k e
    simp at hm
    omega
  · simp [Value.ownBlock] at e
    simp
    omega
theorem OpX.cell {W : World} {b0 : Nat} (h : OpX w W) (h1 : w.heap.size + 2 ≤ b0) (v : Value) : OpX w (W.setCell ⟨b0, 0, none⟩ v) := by
  have hc : ∀ {k cs t fr}, W.heap[k]? = some (.cells cs t fr) → k ≠ b0 → (W.setCell ⟨b0, 0, none⟩ v).heap[k]? = some (.cells cs t fr) := fun h e => (heap_setCell_other W ⟨b0, 0, none⟩ _ v e).trans h
  exact ⟨hc h.ret0 (by omega), hc h.ret1 (by omega), h.below.setCell (by show w.heap.size ≤ b0; omega) v⟩
theorem OpI.out {ts : List (List (BitVec 8))} {W : World} (h : OpI w p g q gd D fr n cap b ts W) (h1 : w.heap.size + 2 ≤ D) (h2 : w.heap.size + 2 ≤ q) (x y : Value) :
    ∃ vt vs, LogAt ((W.setCell ⟨w.heap.size, 0, none⟩ x).setCell ⟨w.heap.size + 1, 0, none⟩ y) q p g vt vs ⟨fr, n, ts, Slo.used ts, false⟩ ∧ (∀ k, vt.ownBlock = some k → D ≤ k) ∧ ∀ i k, (vs.getD i undef).ownBlock = some k → D ≤ k := by
  have hk : Kept [w.heap.size, w.heap.size + 1] W ((W.setCell ⟨w.heap.size, 0, none⟩ x).setCell ⟨w.heap.size + 1, 0, none⟩ y) := ((Kept.refl [w.heap.size, w.heap.size + 1] W).setCell (by simp) x).setCell (by simp) y
  obtain ⟨vt, vs, hl, h3, h4⟩ := h.log
  refine ⟨vt, vs, ⟨(hk.block q hl.lt (by simp; omega)).trans hl.row, hl.ne, ⟨hl.tx.own.kept hk fun k e hm => ?_, hl.tx.len, fun i hi => (hl.tx.txt i hi).keptV hk fun k e hm => ?_, fun i hi k e => ⟨(hl.tx.apart i hi k e).1, (hl.tx.apart i hi k e).2.1, Nat.lt_of_lt_of_le (hl.tx.apart i hi k e).2.2 hk.size⟩, hl.tx.out⟩, hl.small⟩, h3, fun i k e => ?_⟩
  · have := h3 k e
    simp at hm
    omega
  · have := h4 i hi k e
    simp at hm
    omega
  · by_cases hi : i < ts.length
    · exact h4 i hi k e
    · have hn : vs.getD i undef = undef := by
        simp only [List.getD]
        rw [List.getElem?_eq_none (by have : vs.length = ts.length := hl.tx.len; omega)]
        rfl
      rw [hn] at e
      cases e
theorem LogAt.nonCells {w w' : World} {q p g : Nat} {vt : Value} {vs : List Value} {l : Slo.L} {row : Option Nat} (h : LogAt w q p g vt vs l) (hg : w.grownBy w' row) (hr : ∀ r, row = some r → ∃ o : Obj, w.heap[r]? = some o ∧ o.isCells = false) : LogAt w' q p g vt vs l :=
  ⟨cells_nonCells h.row hg hr, h.ne, h.tx.nonCells hg hr, h.small⟩
/-- One more text: what holds behind the round. -/
theorem OpI.more {ts : List (List (BitVec 8))} {W W9 : World} {t : List (BitVec 8)} {vt v2 u : Value} {vs : List Value} (h : OpI w p g q gd D fr n cap b ts W) (hD : D ≤ W.heap.size) (hq : w.heap.size + 2 ≤ q ∧ q + 1 < D ∧ gd < D ∧ gd ≠ q) (hvt : ∀ k, vt.ownBlock = some k → D ≤ k) (hvs : ∀ i, i < ts.length → ∀ k, (vs.getD i undef).ownBlock = some k → D ≤ k)
    (hlen : vs.length = ts.length) (hk : Kept ([q] ++ vt.ownBlock.toList) W W9) (hl : LogAt W9 q p g v2 (vs ++ [u]) ⟨fr, n, ts ++ [t], Slo.used (ts ++ [t]), false⟩) (hv2 : ∀ k, v2.ownBlock = some k → vt.ownBlock = some k ∨ W.heap.size ≤ k) (hu : ∀ k, u.ownBlock = some k → W.heap.size ≤ k) :
    OpI w p g q gd D fr n cap b (ts ++ [t]) W9 := by
  have hn : ∀ k, k < D → k ≠ q → k ∉ [q] ++ vt.ownBlock.toList := fun k h1 h2 hm => by
    simp only [List.mem_append, List.mem_singleton, Option.mem_toList] at hm
    rcases hm with h3 | h3
    · exact h2 h3
    · have := hvt k h3; omega
  have hc : ∀ {k cs ty fr}, W.heap[k]? = some (.cells cs ty fr) → k < D → k ≠ q → W9.heap[k]? = some (.cells cs ty fr) := fun h1 h2 h3 => (hk.block _ (Array.getElem?_eq_some_iff.1 h1).1 (hn _ h2 h3)).trans h1
  refine ⟨⟨v2, vs ++ [u], hl, fun k e => ?_, fun i hi k e => ?_⟩, hc h.ret0 (by omega) (by omega), hc h.ret1 (by omega) (by omega), hc h.ptr (by omega) (by omega), h.below.trans (hk.toBelow (fun k hm => ?_) h.below.size), h.data.keptV hk fun k e => ?_⟩
  · rcases hv2 k e with h1 | h1
    · exact hvt k h1
    · omega
  · rw [List.length_append, List.length_cons, List.length_nil] at hi
    by_cases he : i < ts.length
    · refine hvs i he k ?_
      rw [← e]
      simp only [List.getD]
      rw [List.getElem?_append_left (by omega)]
    · have : (vs ++ [u]).getD i undef = u := by
        simp only [List.getD]
        rw [List.getElem?_append_right (by omega)]
        simp [show i - vs.length = 0 by omega]
      rw [this] at e
      have := hu k e
      omega
  · simp only [List.mem_append, List.mem_singleton, Option.mem_toList] at hm
    rcases hm with h3 | h3
    · omega
    · have := hvt k h3; omega
  · simp only [Value.ownBlock, Option.some.injEq] at e
    subst e
    exact hn _ hq.2.2.1 hq.2.2.2
theorem OpI.bad {ts : List (List (BitVec 8))} {W : World} (h : OpI w p g q gd D fr n cap b ts W) (hD : w.heap.size + 2 ≤ D) :
    (KeepsFrom D W ((W.setCell ⟨w.heap.size, 0, none⟩ (.pointer none)).setCell ⟨w.heap.size + 1, 0, none⟩ (.int .i64 9)).drew ∧ OpX w ((W.setCell ⟨w.heap.size, 0, none⟩ (.pointer none)).setCell ⟨w.heap.size + 1, 0, none⟩ (.int .i64 9)).drew) ∧
    (KeepsFrom D W ((W.setCell ⟨w.heap.size + 1, 0, none⟩ (.int .i64 9)).setCell ⟨w.heap.size, 0, none⟩ (.pointer none)).drew ∧ OpX w ((W.setCell ⟨w.heap.size + 1, 0, none⟩ (.int .i64 9)).setCell ⟨w.heap.size, 0, none⟩ (.pointer none)).drew) := by
  have hl : ∀ k, k ∈ [w.heap.size, w.heap.size + 1] → k < D ∨ ∃ cs t fr, W.heap[k]? = some (.cells cs t fr) := fun k hk => by simp at hk; omega
  have hl2 : ∀ k, k ∈ [w.heap.size, w.heap.size + 1] → w.heap.size ≤ k := fun k hk => by simp at hk; omega
  have k1 : Kept [w.heap.size, w.heap.size + 1] W ((W.setCell ⟨w.heap.size, 0, none⟩ (.pointer none)).setCell ⟨w.heap.size + 1, 0, none⟩ (.int .i64 9)).drew := (((Kept.refl [w.heap.size, w.heap.size + 1] W).setCell (by simp) _).setCell (by simp) _).drew
  have k2 : Kept [w.heap.size, w.heap.size + 1] W ((W.setCell ⟨w.heap.size + 1, 0, none⟩ (.int .i64 9)).setCell ⟨w.heap.size, 0, none⟩ (.pointer none)).drew := (((Kept.refl [w.heap.size, w.heap.size + 1] W).setCell (by simp) _).setCell (by simp) _).drew
  refine ⟨⟨KeepsFrom.ofCells k1 hl, ?_, ?_, h.below.trans (k1.toBelow hl2 h.below.size)⟩, ⟨KeepsFrom.ofCells k2 hl, ?_, ?_, h.below.trans (k2.toBelow hl2 h.below.size)⟩⟩
  · exact (heap_setCell_other _ ⟨w.heap.size + 1, 0, none⟩ _ _ (by simp)).trans (heap_setCell_same W _ 0 _ _ (.pointer none) h.ret0)
  · exact heap_setCell_same _ _ 0 _ _ (.int .i64 9) ((heap_setCell_other W ⟨w.heap.size, 0, none⟩ _ _ (by simp)).trans h.ret1)
  · exact heap_setCell_same _ _ 0 _ _ (.pointer none) ((heap_setCell_other W ⟨w.heap.size + 1, 0, none⟩ _ _ (by simp)).trans h.ret0)
  · exact (heap_setCell_other _ ⟨w.heap.size, 0, none⟩ _ _ (by simp)).trans (heap_setCell_same W _ 0 _ _ (.int .i64 9) h.ret1)
theorem OpI.fin {ts : List (List (BitVec 8))} {W wx : World} {t : List (BitVec 8)} {vt v2 u : Value} {vs : List Value} {B : Nat} (h : OpI w p g q gd D fr n cap b ts W) (hL : LogAt W q p g vt vs ⟨fr, n, ts, Slo.used ts, false⟩) (hvt : ∀ k, vt.ownBlock = some k → D ≤ k) (hv0 : ∀ k, vt.ownBlock = some k → k < B)
    (hvs : ∀ i, i < ts.length → ∀ k, (vs.getD i undef).ownBlock = some k → D ≤ k) (hB : D ≤ B ∧ B ≤ W.heap.size) (hq : w.heap.size + 2 ≤ q ∧ q + 2 < D ∧ gd < D ∧ gd ≠ q) (hrow : wx.heap[q]? = some (.cells (lcells p v2 ⟨fr, n, ts, Slo.used ts, false⟩) 75 (0, 0)))
    (htx : Tx wx v2 (ts ++ [t]) (vs ++ [u]) [p, g, q]) (hv2 : ∀ k, v2.ownBlock = some k → vt.ownBlock = some k ∨ W.heap.size ≤ k) (hk : Kept ([q] ++ vt.ownBlock.toList) W wx) (hu : ∀ k, u.ownBlock = some k → W.heap.size ≤ k) (U K : Nat) (hU : Slo.used ts = U) (hK : Slo.taken t.length = K) (hfit : K ≤ n - U) :
    KeepsFrom D W ((wx.setCell ⟨q, 4, none⟩ (.int .i64 ((U : Int) + K))).drew) ∧ Spares B (q + 2) gd W ((wx.setCell ⟨q, 4, none⟩ (.int .i64 ((U : Int) + K))).drew) ∧ OpI w p g q gd D fr n cap b (ts ++ [t]) ((wx.setCell ⟨q, 4, none⟩ (.int .i64 ((U : Int) + K))).drew) := by
  have hk9 : Kept ([q] ++ vt.ownBlock.toList) W ((wx.setCell ⟨q, 4, none⟩ (.int .i64 ((U : Int) + K))).drew) := (hk.setCell (by simp) _).drew
  have hn : ∀ k, k ≠ q → (k < D ∨ B ≤ k) → k ∉ [q] ++ vt.ownBlock.toList := fun k h1 h2 hm => by
    simp only [List.mem_append, List.mem_singleton, Option.mem_toList] at hm
    rcases hm with h3 | h3
    · exact h1 h3
    · have := hvt k h3
      have := hv0 k h3
      omega
  have hlt := hL.lt
  refine ⟨KeepsFrom.ofCells hk9 fun k hm => ?_, ⟨hk9.size, hk9.block _ (by omega) (hn _ (by omega) (by omega)), hk9.block _ (by omega) (hn _ (by omega) (by omega)), fun k h1 h2 => hk9.block k h2 (hn k (by omega) (.inr h1))⟩, ?_⟩
  · simp only [List.mem_append, List.mem_singleton, Option.mem_toList] at hm
    rcases hm with h3 | h3
    · exact .inl (by omega)
    · exact .inr (hL.tx.own.row k h3)
  · have h5 := Slo.taken_pos t.length
    have hl9 := app_fin (l := ⟨fr, n, ts, Slo.used ts, false⟩) (t := t) hrow htx hL.ne hL.small U K hU hfit (by omega)
    refine h.more (by omega) ⟨hq.1, by omega, hq.2.2.1, hq.2.2.2⟩ hvt hvs hL.tx.len hk9 ?_ hv2 hu
    have e : Slo.used (ts ++ [t]) = Slo.used ts + K := by rw [Slo.used_append]; simp [Slo.used, hK]
    rw [e]
    exact hl9
theorem below_undrew {B : Nat} {w w' : World} (h : Below B w.drew w') : Below B w w' := ⟨h.os, h.tape, h.output, h.size, h.block⟩
end
end Go.Proofs.Ytdnjjemdnlegdaa
namespace Go.Proofs.Ytdnjjemdnlegdaa
set_option linter.unusedVariables false
set_option linter.unusedSimpArgs false
open Go Go.RowKit Go.Shelf
attribute [local go_sem] Oper.semAt_some

theorem foundV_size (g off cap : Nat) (F : Slo.Found) : (foundV g off cap F).size = 2 := by cases F <;> rfl
theorem foundV_one (g off cap : Nat) (F : Slo.Found) : (foundV g off cap F).all (·.oneCell') = true := by cases F <;> simp [foundV, Value.oneCell']
set_option maxRecDepth 100000 in
set_option maxHeartbeats 8000000 in
theorem open_go {w : World} {p g : Nat} {d : Dk.D} (hD : DiskAt w p g d) (fr n : Nat) (k2 : 1 ≤ n) (k4 : fr + n ≤ d.b.length / 128) (hoff : d.off = false) :
    Calls Try.prog 31 #[.pointer (some ⟨p, 0, none⟩), .int .i64 (fr : Int), .int .i64 (n : Int)] w (OpenR w p g (if (Slo.parse n (Slo.region d fr n)).2 = true then (some ⟨fr, n, (Slo.parse n (Slo.region d fr n)).1, Slo.used (Slo.parse n (Slo.region d fr n)).1, false⟩, 0) else (none, 9))) := by
  have hp := hD.pos
  have HS := Lib.hid (fun W (hW : Below w.heap.size w W) => dk_sectors (hD.below hW (Nat.le_refl _)))
  have hr : Dk.read d (fr : Int) (n : Int) = (Slo.region d fr n, 0) := by
    have hm : Dk.may d (fr : Int) (n : Int) = 0 := (Dk.may_zero d fr n).2 ⟨⟨by omega, by omega, by omega⟩, hoff⟩
    unfold Dk.read
    rw [if_neg (by rw [hm]; simp)]; rfl
  have hrl := Slo.region_length d fr n (by omega)
  obtain ⟨b, hb⟩ : ∃ b, Slo.region d fr n = b := ⟨_, rfl⟩
  rw [hb] at hr hrl ⊢
  have HRD := Lib.hid (fun W (hW : Below w.heap.size w W) => (dk_read (hD.below hW (Nat.le_refl _)) fr n (by omega) (by omega) (by omega)).mono (R' := fun e w' => ∃ gd cap, e = .returned (.tuple #[.slice (some ⟨gd, 0, none⟩) (128 * n) cap, .int .i64 0]) ∧ W.heap.size ≤ gd ∧ gd < w'.heap.size ∧ 128 * n ≤ cap ∧ cap ≤ maxLen ∧ SlB w' (.slice (some ⟨gd, 0, none⟩) (128 * n) cap) b ∧ Below W.heap.size W w') (by
    rintro e w' ⟨v, rfl, ho, hbl⟩
    rw [hr] at ho ⊢
    obtain ⟨gd, cap, rfl, h1, h2, h3, h4⟩ := ho.form (128 * n) hrl (by omega)
    have hbd := ho.sl.bounds
    exact ⟨gd, cap, rfl, h1, h2, h3, hbd.2.2, ho.sl, hbl⟩))
  obtain ⟨R, hR⟩ : ∃ R : Option Slo.L × Int, (if (Slo.parse n b).2 = true then (some ⟨fr, n, (Slo.parse n b).1, Slo.used (Slo.parse n b).1, false⟩, 0) else (none, 9)) = R := ⟨_, rfl⟩
  rw [hR]
  have HR := Lib.hid hR
  obtain ⟨M, hM⟩ : ∃ M, d.b.length / 128 = M := ⟨_, rfl⟩
  rw [hM] at HS k4
  have hM1 : 1 ≤ M ∧ M ≤ 16384 := by omega
  obtain ⟨W, hW, hBW, hWs, h6, h7⟩ := alloc2 w (.cells #[.pointer none] 49) (.cells #[.int .i64 0] 27)
  have HW := Lib.hid hW
  have HBW := Lib.hid hBW
  have H67 := Lib.hid (And.intro h6 h7)
  have hM0 : ¬ (M : Int) = 0 := by omega
  have hM2 : M ≠ 0 := by omega
  have k0 : ¬ (fr : Int) < 0 := by omega
  have k3 : ¬ (n : Int) < 1 := by omega
  have k5 : ¬ (M : Int) < n := by omega
  have k6 : ¬ (M : Int) - n < fr := by omega
  have k7 : IntKind.i64.wrap ((M : Int) - n) = M - n := by rw [IntKind.wrap_i64]; omega
  have HD := Lib.hid hD
  have HRL := Lib.hid hrl
  have HNM := Lib.hid (And.intro k2 (And.intro k4 hM1))
  clear hW hBW h6 h7 hD hp hM hr k2 k4 hrl hb hM1 hR
  refine (callsIn_wide (n := 6)).1 ?_
  refine callsIn_of_wp_marks Try.func31 rfl trivial ?_ rfl
  simp only [Try.ntmps31, List.size_toArray, List.length_cons, List.length_nil, Nat.reduceAdd, Nat.reduceSub, Array.replicate_succ, Array.replicate_zero, List.push_toArray, List.append_toArray, List.nil_append, List.cons_append]
  gi_wp2_with (first
    | (refine ⟨trivial, ?_⟩; gi_at_call 27; rw [HW.out]; refine (callsIn_wide.2 (HS.out W HBW.out)).mono ?_; rintro e w' ⟨rfl, rfl⟩)
    | (refine ⟨trivial, ?_⟩; gi_at_call 26; refine (callsIn_wide.2 (HRD.out W HBW.out)).mono ?_; rintro e w2 ⟨gd, cap, rfl, hg1, hg2, hc1, hc2, hsl, hb2⟩; have HRR := Lib.hid (And.intro hg1 (And.intro hg2 (And.intro hc1 (And.intro hc2 (And.intro hsl hb2))))); clear hg1 hg2 hc1 hc2 hsl hb2)
    | (refine ⟨trivial, ?_⟩; gi_at_call 55; refine (callsIn_wide.2 (all_box _ _ _ _)).mono ?_; rintro e w4 ⟨rfl, hb4, hz4, hr4⟩; have HALL := Lib.hid (And.intro hb4 (And.intro hz4 hr4)); clear hb4 hz4 hr4))
  obtain ⟨hg1, hg2, hc1, hc2, hsl, hb2⟩ := HRR.out
  obtain ⟨hb4, hz4, hr4⟩ := HALL.out
  have hnm := HNM.out
  have hbw := HBW.out
  have hlp := HD.out.ltp
  have hlg := HD.out.ltg
  rw [World.size_alloc, World.size_alloc] at hz4 hr4 hb4
  have hq2 := hb2.size
  have hrl := HRL.out
  have hB42 : Below w2.heap.size w2 w4 := (((Below.refl _ w2).alloc (Nat.le_refl _) _).alloc (by simp) _).trans (hb4.mono (by omega))
  have hq : w4.heap[w2.heap.size]? = some (.cells #[.pointer (some ⟨p, 0, none⟩), .int .i64 (fr : Int), .int .i64 (n : Int), .slice none 0 0, .int .i64 0, .bool false] 75 (0, 0)) :=
    (hb4.block _ (by omega)).trans ((Below.heap_alloc _ _ _ (by simp)).trans (heap_alloc_new _ _))
  have hq1 : w4.heap[w2.heap.size + 1]? = some (.cells #[.pointer (some ⟨w2.heap.size, 0, none⟩)] 49 (0, 0)) := by
    refine (hb4.block _ (by omega)).trans ?_
    have := heap_alloc_new (w2.alloc (.cells #[.pointer (some ⟨p, 0, none⟩), .int .i64 (fr : Int), .int .i64 (n : Int), .slice none 0 0, .int .i64 0, .bool false] 75)) (.cells #[.pointer (some ⟨w2.heap.size, 0, none⟩)] 49)
    rwa [World.size_alloc] at this
  have hwl : Below w.heap.size w w4 := hbw.trans ((hb2.trans (hB42.mono hq2)).mono (by omega))
  have hc6 : w4.heap[w.heap.size]? = some (.cells #[.pointer none] 49 (0, 0)) := ((hb2.trans (hB42.mono hq2)).block _ (by omega)).trans H67.out.1
  have hc7 : w4.heap[w.heap.size + 1]? = some (.cells #[.int .i64 0] 27 (0, 0)) := ((hb2.trans (hB42.mono hq2)).block _ (by omega)).trans H67.out.2
  have hsl4 : SlB w4 (.slice (some ⟨gd, 0, none⟩) b.length cap) b := by rw [hrl]; exact hsl.below hB42 (Nat.le_refl _)
  rw [← hrl] at hr4
  have hI0 : OpI w p g w2.heap.size gd w4.heap.size fr n cap b [] w4 :=
    ⟨⟨.slice none 0 0, [], ⟨hq, ⟨by omega, by omega⟩, Tx.nil _ _, ⟨(show fr ≤ 16384 by omega), (show n ≤ 16384 by omega), by simp [Slo.used], by simp [Slo.used]⟩⟩, fun k e => by simp [Value.ownBlock] at e, fun i hi => absurd hi (Nat.not_lt_zero _)⟩, hc6, hc7, hq1, hwl, hsl4⟩
  have HF := Lib.hid (And.intro hg1 (And.intro hg2 (And.intro hq2 (And.intro hWs hz4))))
  have HLT := Lib.hid (And.intro hlp hlg)
  have HIF := Lib.hid (fun (cs : Array Value) (h : cs.size = 2) => (show (Try.prog.info? 98).map (·.size) = some cs.size by rw [h]; kernel_rfl))
  refine wpIn_rangeFunc_cap1 (q := 12) rfl (by omega) (gf := 65) (lb := #[.pointer (some ⟨w2.heap.size + 1 + 1, 0, none⟩)]) rfl trivial (enters_of Try.func65 (by kernel_rfl) rfl)
    (all_stops 5 (w2.heap.size + 1 + 1) gd 0 cap n (by omega) b hrl (by omega) (by omega) (by omega) w4 hr4 hsl4) (by omega) (by omega) (Below.refl _ _) (fun s x h => by rw [h.2.2.2]; rfl)
    (OpI w p g w2.heap.size gd w4.heap.size fr n cap b) (fun _ => OpX w) (OpI.own (by omega)) (OpX.own (by omega)) (fun s W v h => h.cell (by omega) (by omega) (by omega) v) (fun s W v h => h.cell (by omega) v) hI0 98 ?assign ?body ?done ?stop
  case assign =>
    rintro l s x W K ⟨_, _, _, rfl⟩ hK
    clear HRR HALL HRD HS H67 hb4 hz4 hr4 hsl hb2 hsl4 hI0 hq hq1 hc6 hc7 hwl hB42
    generalize hcs : foundV gd _ _ _ = cs at hK ⊢
    have HS2 := Lib.hid (show cs.size = 2 by rw [← hcs]; exact foundV_size _ _ _ _)
    have HS1 := Lib.hid (show cs.all (·.oneCell') = true by rw [← hcs]; exact foundV_one _ _ _ _)
    have HK := Lib.hid hK
    clear hK hcs
    simp only [show ∀ v : Value, #[v].getD 0 undef = v from fun _ => rfl, List.setIfInBounds_toArray, List.set_cons_succ, List.set_cons_zero]
    gi_wp2_with (refine wpListIn_store_rowK rfl 98 (.tmp 12) (.tmp 54) rfl _ _ rfl rfl _ _ (heap_alloc_new _ _) (HIF.out _ HS2.out) HS2.out.symm HS1.out ?_; rw [World.setRow_alloc_new])
    exact HK.out
  case body =>
    rintro l m ts x W0 W5 ⟨hr1, hlt, hfb, rfl⟩ hI hgr hsz hm hrow
    clear HRR HALL HRD HS H67 hb4 hz4 hr4 hsl hb2 hsl4 hI0 hq hq1 hc6 hc7 hwl hB42
    have hIW : OpI w p g w2.heap.size gd w4.heap.size fr n cap b ts W5 := OpI.own (by have := HF.out; omega) ts W0 W5 none hI hgr (fun r e => by cases e)
    obtain ⟨vt, vs, hl0, hv1, hv2⟩ := hI.log
    have c6 : W5.cell? ⟨w.heap.size, 0, none⟩ = some (.pointer none) := cell_of_row _ _ 0 _ _ _ hIW.ret0
    have c7 : W5.cell? ⟨w.heap.size + 1, 0, none⟩ = some (.int .i64 0) := cell_of_row _ _ 0 _ _ _ hIW.ret1
    have c11 : W5.cell? ⟨w2.heap.size + 1, 0, none⟩ = some (.pointer (some ⟨w2.heap.size, 0, none⟩)) := cell_of_row _ _ 0 _ _ _ hIW.ptr
    have f6 : W5.frozen? ⟨w.heap.size, 0, none⟩ = false := frozen_of_row _ _ 0 _ _ hIW.ret0
    have f7 : W5.frozen? ⟨w.heap.size + 1, 0, none⟩ = false := frozen_of_row _ _ 0 _ _ hIW.ret1
    have HIW := Lib.hid hIW
    have hgs := hgr.size
    have HLG := Lib.hid (hl0.below (below_of_grown hgr) (Nat.le_refl _))
    have HVT := Lib.hid (And.intro hv1 hv2)
    have HV0 := Lib.hid (show ∀ k, vt.ownBlock = some k → k < W0.heap.size from fun k e => (World.ownsRow.lt hl0.tx.own k e).2)
    have HR1 := Lib.hid hr1
    have HLT1 := Lib.hid hlt
    have HSZ := Lib.hid (And.intro hsz (And.intro hm hgs))
    have HML := Lib.hid (Array.getElem?_eq_some_iff.1 hrow).1
    obtain ⟨Fd, hFd⟩ : ∃ F, Slo.slot (b.drop (128 * Slo.used ts)) = F := ⟨_, rfl⟩
    rw [hFd] at hfb hrow ⊢
    have HFD := Lib.hid hFd
    simp only [show ∀ v : Value, #[v].getD 0 undef = v from fun _ => rfl, List.setIfInBounds_toArray, List.set_cons_succ, List.set_cons_zero]
    clear hI hIW hgr hl0 hv1 hv2 hgs hr1 hlt hsz hm hFd
    rcases Fd with _ | _ | tx
    · cases hfb
    · have cm0 : W5.cell? ⟨m, 0, none⟩ = some (.slice none 0 0) := cell_of_row _ _ 0 _ _ _ hrow
      have cm1 : W5.cell? ⟨m, 1, none⟩ = some (.int .i64 9) := cell_of_row _ _ 1 _ _ _ hrow
      clear hrow
      simp only [foundV]
      have HBD := Lib.hid (HIW.out.bad (by have := HF.out; omega))
      gi_wp2
      gi_region_o
      all_goals
        gi_wp2
        have hpb := HR1.out.bad HLT1.out HFD.out n (by have := Slo.used_ge ts; have := HLT1.out; rw [HRL.out] at this; omega)
        first
          | exact ⟨HBD.out.1.1, hpb, HBD.out.1.2⟩
          | exact ⟨HBD.out.2.1, hpb, HBD.out.2.2⟩
    · obtain ⟨N, hN⟩ : ∃ N, tx.length = N := ⟨_, rfl⟩
      have hst := Slo.slot_text HFD.out
      have hlt := HLT1.out
      have hre := HR1.out.1
      have hsx : SlB W5 (.slice (some ⟨gd, 0 + 128 * Slo.used ts + 5, none⟩) N (cap - 128 * Slo.used ts - 5)) tx := by
        have h1 := ((HIW.out.data.drop (128 * Slo.used ts) (by omega)).drop 5 (by have := hst.2.2.2.1; have := Slo.taken_ge tx.length; rw [List.length_drop] at *; omega)).take N (by have := hst.2.2.2.1; have := Slo.taken_ge tx.length; rw [List.length_drop] at *; omega)
        rw [← hN, hst.2.2.2.2] at h1
        rw [← hN]
        exact h1
      have HSX := Lib.hid hsx
      have HST := Lib.hid (And.intro hst.2.2.1 hst.2.2.2.1)
      have HNE := Lib.hid hN
      simp only [foundV, cellsOf, hN] at hrow ⊢
      obtain ⟨ox, hox⟩ : ∃ ox, 0 + 128 * Slo.used ts + 5 = ox := ⟨_, rfl⟩
      obtain ⟨cx, hcx⟩ : ∃ cx, cap - 128 * Slo.used ts - 5 = cx := ⟨_, rfl⟩
      rw [hox, hcx] at HSX
      rw [hox, hcx] at hrow ⊢
      have cm0 : W5.cell? ⟨m, 0, none⟩ = some (.slice (some ⟨gd, ox, none⟩) N cx) := cell_of_row _ _ 0 _ _ _ hrow
      have cm1 : W5.cell? ⟨m, 1, none⟩ = some (.int .i64 0) := cell_of_row _ _ 1 _ _ _ hrow
      clear hrow hst hlt hre hsx hN hox hcx
      have hfs := HF.out
      have hsz := HSZ.out
      have hqw : w2.heap.size < W5.heap.size := by omega
      have hq1w : w2.heap.size + 1 < W5.heap.size := by omega
      have hmw : m < W5.heap.size := HML.out
      have hnq : some (w2.heap.size + 1) ≠ vt.ownBlock := fun e => by have := HVT.out.1 _ e.symm; omega
      have hnm : some m ≠ vt.ownBlock := fun e => by have := HV0.out _ e.symm; omega
      have hmq : m ≠ w2.heap.size := by omega
      have HVL := Lib.hid (show vs.length ≤ 1000000 by have h1 := HLG.out.tx.len; have h2 := HLG.out.small; have h3 : ts.length ≤ Slo.used ts := Slo.used_ge ts; have h4 : Slo.used ts ≤ n := h2.2.2.1; omega)
      obtain ⟨U, hU⟩ : ∃ U, Slo.used ts = U := ⟨_, rfl⟩
      obtain ⟨K, hK⟩ : ∃ K, Slo.taken N = K := ⟨_, rfl⟩
      have hst2 := HST.out
      rw [List.length_drop, HNE.out, hK, HRL.out, hU] at hst2
      have hUn : U ≤ n := by have h2 := HLG.out.small.2.2.1; rw [← hU]; exact h2
      have hnn := HNM.out
      have HTI := Lib.hid (fun W => (taken_any N (by omega) W).mono (R' := fun e w' => e = .returned (.int .i64 (K : Int)) ∧ w' = W) (by rintro e w' ⟨rfl, rfl⟩; rw [hK]; exact ⟨rfl, rfl⟩))
      have q2 : IntKind.i64.wrap ((U : Int) + K) = (U : Int) + K := by rw [IntKind.wrap_i64]; omega
      have HUK := Lib.hid (show Slo.used ts = U ∧ Slo.taken tx.length = K ∧ K ≤ n - U from ⟨hU, by rw [HNE.out]; exact hK, by omega⟩)
      have hw5 : w.heap.size ≤ W5.heap.size := HIW.out.below.size
      clear hfs hsz hU hK hst2 hUn hnn
      gi_wp2
      -- REG A BEGIN
      refine wpIn_region_held (S := fun W' => W'.cell? ⟨w2.heap.size + 1, 0, none⟩ = some (.pointer (some ⟨w2.heap.size, 0, none⟩)) ∧ W'.cell? ⟨m, 0, none⟩ = some (.slice (some ⟨gd, ox, none⟩) N cx)) (by kernel_rfl) (by kernel_rfl) (fun ⟨_, _, h⟩ => h) (⟨c11, cm0⟩) (fun hHeld => ?_)
      refine wpAnyH_take (i := 0) (v := ?v1) rfl (by kernel_rfl) (by kernel_rfl) (by kernel_rfl) (fun _ _ _ h => h) (Or.inl ⟨by rfl, ?y1⟩) (by assumption) ?r1
      case y1 =>
        intro w' hSw
        go_split_ands
        go_simp
        try with_reducible rfl
      try simp only [List.getElem_toArray, List.getElem_cons_zero, List.getElem_cons_succ, Act.put, List.setIfInBounds_toArray, List.set_cons_zero, List.set_cons_succ]
      refine wpAnyH_take (i := 1) (v := ?v2) rfl (by kernel_rfl) (by kernel_rfl) (by kernel_rfl) (fun _ _ _ h => h) (Or.inl ⟨by rfl, ?y2⟩) (by assumption) ?r2
      case y2 =>
        intro w' hSw
        go_split_ands
        go_simp
        try with_reducible rfl
      try simp only [List.getElem_toArray, List.getElem_cons_zero, List.getElem_cons_succ, Act.put, List.setIfInBounds_toArray, List.set_cons_zero, List.set_cons_succ]
      refine wpAnyH_take (i := 2) (v := ?v3) rfl (by kernel_rfl) (by kernel_rfl) (by kernel_rfl) (fun _ _ _ h => h) (Or.inl ⟨by rfl, ?y3⟩) (by assumption) ?r3
      case y3 =>
        intro w' hSw
        go_split_ands
        go_simp
        try with_reducible rfl
      try simp only [List.getElem_toArray, List.getElem_cons_zero, List.getElem_cons_succ, Act.put, List.setIfInBounds_toArray, List.set_cons_zero, List.set_cons_succ]
      refine wpAnyH_take (i := 3) (v := ?v4) rfl (by kernel_rfl) (by kernel_rfl) (by kernel_rfl) (fun _ _ _ h => h) (Or.inl ⟨by rfl, ?y4⟩) (by assumption) ?r4
      case y4 =>
        intro w' hSw
        go_split_ands
        go_simp
        try with_reducible rfl
      try simp only [List.getElem_toArray, List.getElem_cons_zero, List.getElem_cons_succ, Act.put, List.setIfInBounds_toArray, List.set_cons_zero, List.set_cons_succ]
      refine wpAnyH_take (i := 5) (v := ?v5) rfl (by kernel_rfl) (by kernel_rfl) (by kernel_rfl) (fun _ _ _ h => h) (Or.inl ⟨by rfl, ?y5⟩) (by assumption) ?r5
      case y5 =>
        intro w' hSw
        go_split_ands
        go_simp
        try with_reducible rfl
      try simp only [List.getElem_toArray, List.getElem_cons_zero, List.getElem_cons_succ, Act.put, List.setIfInBounds_toArray, List.set_cons_zero, List.set_cons_succ]
      refine wpAnyH_take (i := 6) (v := ?v6) rfl (by kernel_rfl) (by kernel_rfl) (by kernel_rfl) (fun _ _ _ h => h) (Or.inl ⟨by rfl, ?y6⟩) (by assumption) ?r6
      case y6 =>
        intro w' hSw
        go_split_ands
        go_simp
        try with_reducible rfl
      try simp only [List.getElem_toArray, List.getElem_cons_zero, List.getElem_cons_succ, Act.put, List.setIfInBounds_toArray, List.set_cons_zero, List.set_cons_succ]
      refine wpAnyH_ready (rs := [4, 7]) (by kernel_rfl) (by simp) ?_
      refine (AllReadyH.cons (i := 4) rfl (fun K hK => ?_) (AllReadyH.cons (i := 7) rfl (fun K hK => ?_) AllReadyH.nil))
      · have c3 : W5.drew.cell? ⟨w2.heap.size, 3, none⟩ = some vt := HLG.out.c3
        go_simp
        refine hK.out _ _ (hHeld) (fun hHeld' => ?_)
        clear hHeld hK K
        have hHeld := hHeld'
        clear hHeld'
        try simp only [List.getElem_toArray, List.getElem_cons_zero, List.getElem_cons_succ, Act.put, List.setIfInBounds_toArray, List.set_cons_zero, List.set_cons_succ]
        refine wpAnyH_ready (rs := [7]) (by kernel_rfl) (by simp) ?_
        refine AllReadyH.cons (i := 7) rfl (fun K hK => ?_) AllReadyH.nil
        go_simp
        go_at_call 48
        (with_reducible refine Calls.mono (clone_any _ tx _ HSX.out.drew (by rw [HNE.out]; have := HST.out.1; rw [HNE.out] at this; omega)) ?_)
        rintro e wd ⟨vd, rfl, ho, hb⟩
        obtain ⟨a2, cp2, rfl⟩ := ho.sl.len
        have HOd := Lib.hid ho
        have HBd := Lib.hid (show Below W5.heap.size W5 wd from below_undrew hb)
        clear ho hb
        refine hK.out _ _ (⟨(HBd.out.cell (p := ⟨w2.heap.size + 1, 0, none⟩) hq1w).trans hHeld.1, (HBd.out.cell (p := ⟨m, 0, none⟩) hmw).trans hHeld.2⟩) (fun hHeld' => ?_)
        clear hHeld hK K
        have hHeld := hHeld'
        clear hHeld'
        try simp only [List.getElem_toArray, List.getElem_cons_zero, List.getElem_cons_succ, Act.put, List.setIfInBounds_toArray, List.set_cons_zero, List.set_cons_succ]
        refine wpAnyH_ready (rs := [8]) (by kernel_rfl) (by simp) ?_
        refine AllReadyH.cons (i := 8) rfl (fun K hK => ?_) AllReadyH.nil
        go_simp
        refine hK.out _ _ (⟨(((Below.refl wd.heap.size wd).alloc (Nat.le_refl _) _).cell (p := ⟨w2.heap.size + 1, 0, none⟩) (Nat.lt_of_lt_of_le hq1w HBd.out.size)).trans hHeld.1, (((Below.refl wd.heap.size wd).alloc (Nat.le_refl _) _).cell (p := ⟨m, 0, none⟩) (Nat.lt_of_lt_of_le hmw HBd.out.size)).trans hHeld.2⟩) (fun hHeld' => ?_)
        clear hHeld hK K
        have hHeld := hHeld'
        clear hHeld'
        try simp only [List.getElem_toArray, List.getElem_cons_zero, List.getElem_cons_succ, Act.put, List.setIfInBounds_toArray, List.set_cons_zero, List.set_cons_succ]
        refine wpAnyH_ready (rs := [9]) (by kernel_rfl) (by simp) ?_
        refine AllReadyH.cons (i := 9) rfl (fun K hK => ?_) AllReadyH.nil
        refine any_of_list (by rfl) (fun Q' hQ' => ?_)
        try simp only [List.getElem_toArray, List.getElem_cons_zero, List.getElem_cons_succ]
        refine wpList_append_l1 rfl (.tmp 64) (.tmp 68) 47 22 rfl Try.underlying47 info_sl vt vs ((HLG.out.tx.own.below (B := W5.heap.size) HBd.out (Nat.le_refl _)).alloc _) rfl wd.heap.size (.slice a2 _ cp2) rfl (cell_new1 _ _ _) rfl HVL.out ?_
        intro v2 w7 ho hg hat
        have HO2 := Lib.hid ho
        have HG2 := Lib.hid hg
        have HAT := Lib.hid hat
        obtain ⟨g2, cap2, hv2⟩ := ho.form1
        subst hv2
        clear ho hg hat
        refine hQ' _ _ (hK.out _ _ (⟨(World.cell?_of_block (a := ⟨w2.heap.size + 1, 0, none⟩) (HG2.out.block _ (by have := HBd.out.size; simp; omega) hnq)).trans hHeld.1, (World.cell?_of_block (a := ⟨m, 0, none⟩) (HG2.out.block _ (by have := HBd.out.size; simp; omega) hnm)).trans hHeld.2⟩) (fun hHeld' => ?_))
        clear hHeld hK K hQ' Q'
        have hHeld := hHeld'
        clear hHeld'
        try simp only [List.getElem_toArray, List.getElem_cons_zero, List.getElem_cons_succ, Act.put, List.setIfInBounds_toArray, List.set_cons_zero, List.set_cons_succ]
        refine wpAnyH_take (i := 10) (v := ?v7) rfl (by kernel_rfl) (by kernel_rfl) (by kernel_rfl) (fun _ _ _ h => h) (Or.inl ⟨by rfl, ?y7⟩) (by assumption) ?r7
        case y7 =>
          intro w' hSw
          go_split_ands
          go_simp
          try with_reducible rfl
        try simp only [List.getElem_toArray, List.getElem_cons_zero, List.getElem_cons_succ, Act.put, List.setIfInBounds_toArray, List.set_cons_zero, List.set_cons_succ]
        refine wpAnyH_take (i := 11) (v := ?v8) rfl (by kernel_rfl) (by kernel_rfl) (by kernel_rfl) (fun _ _ _ h => h) (Or.inl ⟨by rfl, ?y8⟩) (by assumption) ?r8
        case y8 =>
          intro w' hSw
          go_split_ands
          go_simp
          try with_reducible rfl
        try simp only [List.getElem_toArray, List.getElem_cons_zero, List.getElem_cons_succ, Act.put, List.setIfInBounds_toArray, List.set_cons_zero, List.set_cons_succ]
        refine wpAnyH_ready (rs := [12]) (by kernel_rfl) (by simp) ?_
        refine AllReadyH.cons (i := 12) rfl (fun K hK => ?_) AllReadyH.nil
        have hrq := app_row HLG.out HBd.out HG2.out
        have c3 : w7.cell? ⟨w2.heap.size, 3, none⟩ = some vt := cell_of_row w7 _ 3 _ _ _ hrq
        have f3 : w7.frozen? ⟨w2.heap.size, 3, none⟩ = false := frozen_of_row w7 _ 3 _ _ hrq
        go_simp
        refine hK.out _ _ (⟨(World.cell?_of_block (a := ⟨w2.heap.size + 1, 0, none⟩) (heap_setCell_other w7 ⟨w2.heap.size, 3, none⟩ _ _ (by simp))).trans hHeld.1, (World.cell?_of_block (a := ⟨m, 0, none⟩) (heap_setCell_other w7 ⟨w2.heap.size, 3, none⟩ _ _ hmq)).trans hHeld.2⟩) (fun hHeld' => ?_)
        clear hHeld hK K
        have hHeld := hHeld'
        clear hHeld'
        try simp only [List.getElem_toArray, List.getElem_cons_zero, List.getElem_cons_succ, Act.put, List.setIfInBounds_toArray, List.set_cons_zero, List.set_cons_succ]
        refine wpAnyH_done (by kernel_rfl) ?_ _
        have hE := app_end HLG.out (Nat.lt_of_lt_of_le HLT.out.1 hw5) (Nat.lt_of_lt_of_le HLT.out.2 hw5) (show OwnB 5 W5.heap.size wd _ tx from HOd.out) HBd.out HG2.out HO2.out HAT.out
        have HOB := Lib.hid (fun k (e : (Value.slice a2 tx.length cp2).ownBlock = some k) => (show W5.heap.size ≤ k from (World.ownsRow.lt HOd.out k e).1))
        obtain ⟨v2, hv2⟩ : ∃ v2, Value.slice (some ⟨g2, 0, none⟩) (vs.length + 1) cap2 = v2 := ⟨_, rfl⟩
        rw [hv2] at hE hHeld ⊢
        obtain ⟨wx, hwx⟩ : ∃ wx, w7.setCell ⟨w2.heap.size, 3, none⟩ v2 = wx := ⟨_, rfl⟩
        rw [hwx] at hE hHeld ⊢
        have HE := Lib.hid hE
        have d11 := hHeld.1
        have dm0 := hHeld.2
        have cq4 : wx.cell? ⟨w2.heap.size, 4, none⟩ = some (.int .i64 (U : Int)) := by rw [← HUK.out.1]; exact cell_of_row wx _ 4 _ _ _ hE.1
        have fq4 : wx.frozen? ⟨w2.heap.size, 4, none⟩ = false := frozen_of_row wx _ 4 _ _ hE.1
        clear hE hHeld hv2 hwx HG2 HO2 HAT HBd HOd
        gi_wp2
        -- REG B1 BEGIN
        refine wpIn_region_held (S := fun W' => W'.cell? ⟨w2.heap.size + 1, 0, none⟩ = some (.pointer (some ⟨w2.heap.size, 0, none⟩)) ∧ W'.cell? ⟨m, 0, none⟩ = some (.slice (some ⟨gd, ox, none⟩) N cx)) (by kernel_rfl) (by kernel_rfl) (fun ⟨_, _, h⟩ => h) (⟨d11, dm0⟩) (fun hHeld => ?_)
        refine wpAnyH_take (i := 0) (v := ?v13) rfl (by kernel_rfl) (by kernel_rfl) (by kernel_rfl) (fun _ _ _ h => h) (Or.inl ⟨by rfl, ?y13⟩) (by assumption) ?r13
        case y13 =>
          intro w' hSw
          go_split_ands
          go_simp
          try with_reducible rfl
        try simp only [List.getElem_toArray, List.getElem_cons_zero, List.getElem_cons_succ, Act.put, List.setIfInBounds_toArray, List.set_cons_zero, List.set_cons_succ]
        refine wpAnyH_take (i := 1) (v := ?v14) rfl (by kernel_rfl) (by kernel_rfl) (by kernel_rfl) (fun _ _ _ h => h) (Or.inl ⟨by rfl, ?y14⟩) (by assumption) ?r14
        case y14 =>
          intro w' hSw
          go_split_ands
          go_simp
          try with_reducible rfl
        try simp only [List.getElem_toArray, List.getElem_cons_zero, List.getElem_cons_succ, Act.put, List.setIfInBounds_toArray, List.set_cons_zero, List.set_cons_succ]
        refine wpAnyH_take (i := 2) (v := ?v15) rfl (by kernel_rfl) (by kernel_rfl) (by kernel_rfl) (fun _ _ _ h => h) (Or.inl ⟨by rfl, ?y15⟩) (by assumption) ?r15
        case y15 =>
          intro w' hSw
          go_split_ands
          go_simp
          try with_reducible rfl
        try simp only [List.getElem_toArray, List.getElem_cons_zero, List.getElem_cons_succ, Act.put, List.setIfInBounds_toArray, List.set_cons_zero, List.set_cons_succ]
        refine wpAnyH_take (i := 4) (v := ?v16) rfl (by kernel_rfl) (by kernel_rfl) (by kernel_rfl) (fun _ _ _ h => h) (Or.inl ⟨by rfl, ?y16⟩) (by assumption) ?r16
        case y16 =>
          intro w' hSw
          go_split_ands
          go_simp
          try with_reducible rfl
        try simp only [List.getElem_toArray, List.getElem_cons_zero, List.getElem_cons_succ, Act.put, List.setIfInBounds_toArray, List.set_cons_zero, List.set_cons_succ]
        refine wpAnyH_take (i := 5) (v := ?v17) rfl (by kernel_rfl) (by kernel_rfl) (by kernel_rfl) (fun _ _ _ h => h) (Or.inl ⟨by rfl, ?y17⟩) (by assumption) ?r17
        case y17 =>
          intro w' hSw
          go_split_ands
          go_simp
          try with_reducible rfl
        try simp only [List.getElem_toArray, List.getElem_cons_zero, List.getElem_cons_succ, Act.put, List.setIfInBounds_toArray, List.set_cons_zero, List.set_cons_succ]
        refine wpAnyH_take (i := 6) (v := ?v18) rfl (by kernel_rfl) (by kernel_rfl) (by kernel_rfl) (fun _ _ _ h => h) (Or.inl ⟨by rfl, ?y18⟩) (by assumption) ?r18
        case y18 =>
          intro w' hSw
          go_split_ands
          go_simp
          try with_reducible rfl
        try simp only [List.getElem_toArray, List.getElem_cons_zero, List.getElem_cons_succ, Act.put, List.setIfInBounds_toArray, List.set_cons_zero, List.set_cons_succ]
        refine wpAnyH_ready (rs := [3, 7]) (by kernel_rfl) (by simp) ?_
        refine (AllReadyH.cons (i := 3) rfl (fun K hK => ?_) (AllReadyH.cons (i := 7) rfl (fun K hK => ?_) AllReadyH.nil))
        · go_simp
          refine hK.out _ _ (hHeld) (fun hHeld' => ?_)
          clear hHeld hK K
          have hHeld := hHeld'
          clear hHeld'
          try simp only [List.getElem_toArray, List.getElem_cons_zero, List.getElem_cons_succ, Act.put, List.setIfInBounds_toArray, List.set_cons_zero, List.set_cons_succ]
          refine wpAnyH_ready (rs := [7]) (by kernel_rfl) (by simp) ?_
          refine AllReadyH.cons (i := 7) rfl (fun K hK => ?_) AllReadyH.nil
          go_simp
          go_at_call 52
          (with_reducible refine Calls.mono (HTI.out _) ?_)
          rintro e w' ⟨rfl, rfl⟩
          refine hK.out _ _ (hHeld) (fun hHeld' => ?_)
          clear hHeld hK K
          have hHeld := hHeld'
          clear hHeld'
          try simp only [List.getElem_toArray, List.getElem_cons_zero, List.getElem_cons_succ, Act.put, List.setIfInBounds_toArray, List.set_cons_zero, List.set_cons_succ]
          refine wpAnyH_take (i := 8) (v := ?v19) rfl (by kernel_rfl) (by kernel_rfl) (by kernel_rfl) (fun _ _ _ h => h) (Or.inl ⟨by rfl, ?y19⟩) (by assumption) ?r19
          case y19 =>
            intro w' hSw
            go_split_ands
            go_simp
            try with_reducible rfl
          try simp only [List.getElem_toArray, List.getElem_cons_zero, List.getElem_cons_succ, Act.put, List.setIfInBounds_toArray, List.set_cons_zero, List.set_cons_succ]
          refine wpAnyH_take (i := 9) (v := ?v20) rfl (by kernel_rfl) (by kernel_rfl) (by kernel_rfl) (fun _ _ _ h => h) (Or.inl ⟨by rfl, ?y20⟩) (by assumption) ?r20
          case y20 =>
            intro w' hSw
            go_split_ands
            go_simp
            try with_reducible rfl
          try simp only [List.getElem_toArray, List.getElem_cons_zero, List.getElem_cons_succ, Act.put, List.setIfInBounds_toArray, List.set_cons_zero, List.set_cons_succ]
          refine wpAnyH_take (i := 10) (v := ?v21) rfl (by kernel_rfl) (by kernel_rfl) (by kernel_rfl) (fun _ _ _ h => h) (Or.inl ⟨by rfl, ?y21⟩) (by assumption) ?r21
          case y21 =>
            intro w' hSw
            go_split_ands
            go_simp
            try with_reducible rfl
          try simp only [List.getElem_toArray, List.getElem_cons_zero, List.getElem_cons_succ, Act.put, List.setIfInBounds_toArray, List.set_cons_zero, List.set_cons_succ]
          refine wpAnyH_ready (rs := [11]) (by kernel_rfl) (by simp) ?_
          refine AllReadyH.cons (i := 11) rfl (fun K hK => ?_) AllReadyH.nil
          go_simp
          refine hK.out _ _ (⟨(World.cell?_of_block (a := ⟨w2.heap.size + 1, 0, none⟩) (heap_setCell_other wx.drew ⟨w2.heap.size, 4, none⟩ _ _ (by simp))).trans hHeld.1, (World.cell?_of_block (a := ⟨m, 0, none⟩) (heap_setCell_other wx.drew ⟨w2.heap.size, 4, none⟩ _ _ hmq)).trans hHeld.2⟩) (fun hHeld' => ?_)
          clear hHeld hK K
          have hHeld := hHeld'
          clear hHeld'
          try simp only [List.getElem_toArray, List.getElem_cons_zero, List.getElem_cons_succ, Act.put, List.setIfInBounds_toArray, List.set_cons_zero, List.set_cons_succ]
          refine wpAnyH_done (by kernel_rfl) ?_ _
          have hF := HIW.out.fin HLG.out HVT.out.1 HV0.out HVT.out.2 (by have := HSZ.out; have := HF.out; omega) (by have := HF.out; omega) HE.out.1 HE.out.2.1 HE.out.2.2.1 HE.out.2.2.2 HOB.out U K HUK.out.1 HUK.out.2.1 HUK.out.2.2
          gi_wp2
          exact ⟨hF.1, hF.2.1, ts ++ [tx], ⟨tx, HFD.out, rfl⟩, hF.2.2⟩
        · go_simp
          go_at_call 52
          (with_reducible refine Calls.mono (HTI.out _) ?_)
          rintro e w' ⟨rfl, rfl⟩
          refine hK.out _ _ (hHeld) (fun hHeld' => ?_)
          clear hHeld hK K
          have hHeld := hHeld'
          clear hHeld'
          try simp only [List.getElem_toArray, List.getElem_cons_zero, List.getElem_cons_succ, Act.put, List.setIfInBounds_toArray, List.set_cons_zero, List.set_cons_succ]
          refine wpAnyH_ready (rs := [3]) (by kernel_rfl) (by simp) ?_
          refine AllReadyH.cons (i := 3) rfl (fun K hK => ?_) AllReadyH.nil
          go_simp
          refine hK.out _ _ (hHeld) (fun hHeld' => ?_)
          clear hHeld hK K
          have hHeld := hHeld'
          clear hHeld'
          try simp only [List.getElem_toArray, List.getElem_cons_zero, List.getElem_cons_succ, Act.put, List.setIfInBounds_toArray, List.set_cons_zero, List.set_cons_succ]
          refine wpAnyH_take (i := 8) (v := ?v22) rfl (by kernel_rfl) (by kernel_rfl) (by kernel_rfl) (fun _ _ _ h => h) (Or.inl ⟨by rfl, ?y22⟩) (by assumption) ?r22
          case y22 =>
            intro w' hSw
            go_split_ands
            go_simp
            try with_reducible rfl
          try simp only [List.getElem_toArray, List.getElem_cons_zero, List.getElem_cons_succ, Act.put, List.setIfInBounds_toArray, List.set_cons_zero, List.set_cons_succ]
          refine wpAnyH_take (i := 9) (v := ?v23) rfl (by kernel_rfl) (by kernel_rfl) (by kernel_rfl) (fun _ _ _ h => h) (Or.inl ⟨by rfl, ?y23⟩) (by assumption) ?r23
          case y23 =>
            intro w' hSw
            go_split_ands
            go_simp
            try with_reducible rfl
          try simp only [List.getElem_toArray, List.getElem_cons_zero, List.getElem_cons_succ, Act.put, List.setIfInBounds_toArray, List.set_cons_zero, List.set_cons_succ]
          refine wpAnyH_take (i := 10) (v := ?v24) rfl (by kernel_rfl) (by kernel_rfl) (by kernel_rfl) (fun _ _ _ h => h) (Or.inl ⟨by rfl, ?y24⟩) (by assumption) ?r24
          case y24 =>
            intro w' hSw
            go_split_ands
            go_simp
            try with_reducible rfl
          try simp only [List.getElem_toArray, List.getElem_cons_zero, List.getElem_cons_succ, Act.put, List.setIfInBounds_toArray, List.set_cons_zero, List.set_cons_succ]
          refine wpAnyH_ready (rs := [11]) (by kernel_rfl) (by simp) ?_
          refine AllReadyH.cons (i := 11) rfl (fun K hK => ?_) AllReadyH.nil
          go_simp
          refine hK.out _ _ (⟨(World.cell?_of_block (a := ⟨w2.heap.size + 1, 0, none⟩) (heap_setCell_other wx.drew ⟨w2.heap.size, 4, none⟩ _ _ (by simp))).trans hHeld.1, (World.cell?_of_block (a := ⟨m, 0, none⟩) (heap_setCell_other wx.drew ⟨w2.heap.size, 4, none⟩ _ _ hmq)).trans hHeld.2⟩) (fun hHeld' => ?_)
          clear hHeld hK K
          have hHeld := hHeld'
          clear hHeld'
          try simp only [List.getElem_toArray, List.getElem_cons_zero, List.getElem_cons_succ, Act.put, List.setIfInBounds_toArray, List.set_cons_zero, List.set_cons_succ]
          refine wpAnyH_done (by kernel_rfl) ?_ _
          have hF := HIW.out.fin HLG.out HVT.out.1 HV0.out HVT.out.2 (by have := HSZ.out; have := HF.out; omega) (by have := HF.out; omega) HE.out.1 HE.out.2.1 HE.out.2.2.1 HE.out.2.2.2 HOB.out U K HUK.out.1 HUK.out.2.1 HUK.out.2.2
          gi_wp2
          exact ⟨hF.1, hF.2.1, ts ++ [tx], ⟨tx, HFD.out, rfl⟩, hF.2.2⟩
        -- REG B1 END
      · go_simp
        go_at_call 48
        (with_reducible refine Calls.mono (clone_any _ tx _ HSX.out.drew (by rw [HNE.out]; have := HST.out.1; rw [HNE.out] at this; omega)) ?_)
        rintro e wd ⟨vd, rfl, ho, hb⟩
        obtain ⟨a2, cp2, rfl⟩ := ho.sl.len
        have HOd := Lib.hid ho
        have HBd := Lib.hid (show Below W5.heap.size W5 wd from below_undrew hb)
        clear ho hb
        refine hK.out _ _ (⟨(HBd.out.cell (p := ⟨w2.heap.size + 1, 0, none⟩) hq1w).trans hHeld.1, (HBd.out.cell (p := ⟨m, 0, none⟩) hmw).trans hHeld.2⟩) (fun hHeld' => ?_)
        clear hHeld hK K
        have hHeld := hHeld'
        clear hHeld'
        try simp only [List.getElem_toArray, List.getElem_cons_zero, List.getElem_cons_succ, Act.put, List.setIfInBounds_toArray, List.set_cons_zero, List.set_cons_succ]
        refine wpAnyH_ready (rs := [4, 8]) (by kernel_rfl) (by simp) ?_
        refine (AllReadyH.cons (i := 4) rfl (fun K hK => ?_) (AllReadyH.cons (i := 8) rfl (fun K hK => ?_) AllReadyH.nil))
        · have c3 : wd.cell? ⟨w2.heap.size, 3, none⟩ = some vt := (HBd.out.cell (p := ⟨w2.heap.size, 3, none⟩) hqw).trans HLG.out.c3
          go_simp
          refine hK.out _ _ (hHeld) (fun hHeld' => ?_)
          clear hHeld hK K
          have hHeld := hHeld'
          clear hHeld'
          try simp only [List.getElem_toArray, List.getElem_cons_zero, List.getElem_cons_succ, Act.put, List.setIfInBounds_toArray, List.set_cons_zero, List.set_cons_succ]
          refine wpAnyH_ready (rs := [8]) (by kernel_rfl) (by simp) ?_
          refine AllReadyH.cons (i := 8) rfl (fun K hK => ?_) AllReadyH.nil
          go_simp
          refine hK.out _ _ (⟨(((Below.refl wd.heap.size wd).alloc (Nat.le_refl _) _).cell (p := ⟨w2.heap.size + 1, 0, none⟩) (Nat.lt_of_lt_of_le hq1w HBd.out.size)).trans hHeld.1, (((Below.refl wd.heap.size wd).alloc (Nat.le_refl _) _).cell (p := ⟨m, 0, none⟩) (Nat.lt_of_lt_of_le hmw HBd.out.size)).trans hHeld.2⟩) (fun hHeld' => ?_)
          clear hHeld hK K
          have hHeld := hHeld'
          clear hHeld'
          try simp only [List.getElem_toArray, List.getElem_cons_zero, List.getElem_cons_succ, Act.put, List.setIfInBounds_toArray, List.set_cons_zero, List.set_cons_succ]
          refine wpAnyH_ready (rs := [9]) (by kernel_rfl) (by simp) ?_
          refine AllReadyH.cons (i := 9) rfl (fun K hK => ?_) AllReadyH.nil
          refine any_of_list (by rfl) (fun Q' hQ' => ?_)
          try simp only [List.getElem_toArray, List.getElem_cons_zero, List.getElem_cons_succ]
          refine wpList_append_l1 rfl (.tmp 64) (.tmp 68) 47 22 rfl Try.underlying47 info_sl vt vs ((HLG.out.tx.own.below (B := W5.heap.size) HBd.out (Nat.le_refl _)).alloc _) rfl wd.heap.size (.slice a2 _ cp2) rfl (cell_new1 _ _ _) rfl HVL.out ?_
          intro v2 w7 ho hg hat
          have HO2 := Lib.hid ho
          have HG2 := Lib.hid hg
          have HAT := Lib.hid hat
          obtain ⟨g2, cap2, hv2⟩ := ho.form1
          subst hv2
          clear ho hg hat
          refine hQ' _ _ (hK.out _ _ (⟨(World.cell?_of_block (a := ⟨w2.heap.size + 1, 0, none⟩) (HG2.out.block _ (by have := HBd.out.size; simp; omega) hnq)).trans hHeld.1, (World.cell?_of_block (a := ⟨m, 0, none⟩) (HG2.out.block _ (by have := HBd.out.size; simp; omega) hnm)).trans hHeld.2⟩) (fun hHeld' => ?_))
          clear hHeld hK K hQ' Q'
          have hHeld := hHeld'
          clear hHeld'
          try simp only [List.getElem_toArray, List.getElem_cons_zero, List.getElem_cons_succ, Act.put, List.setIfInBounds_toArray, List.set_cons_zero, List.set_cons_succ]
          refine wpAnyH_take (i := 10) (v := ?v9) rfl (by kernel_rfl) (by kernel_rfl) (by kernel_rfl) (fun _ _ _ h => h) (Or.inl ⟨by rfl, ?y9⟩) (by assumption) ?r9
          case y9 =>
            intro w' hSw
            go_split_ands
            go_simp
            try with_reducible rfl
          try simp only [List.getElem_toArray, List.getElem_cons_zero, List.getElem_cons_succ, Act.put, List.setIfInBounds_toArray, List.set_cons_zero, List.set_cons_succ]
          refine wpAnyH_take (i := 11) (v := ?v10) rfl (by kernel_rfl) (by kernel_rfl) (by kernel_rfl) (fun _ _ _ h => h) (Or.inl ⟨by rfl, ?y10⟩) (by assumption) ?r10
          case y10 =>
            intro w' hSw
            go_split_ands
            go_simp
            try with_reducible rfl
          try simp only [List.getElem_toArray, List.getElem_cons_zero, List.getElem_cons_succ, Act.put, List.setIfInBounds_toArray, List.set_cons_zero, List.set_cons_succ]
          refine wpAnyH_ready (rs := [12]) (by kernel_rfl) (by simp) ?_
          refine AllReadyH.cons (i := 12) rfl (fun K hK => ?_) AllReadyH.nil
          have hrq := app_row HLG.out HBd.out HG2.out
          have c3 : w7.cell? ⟨w2.heap.size, 3, none⟩ = some vt := cell_of_row w7 _ 3 _ _ _ hrq
          have f3 : w7.frozen? ⟨w2.heap.size, 3, none⟩ = false := frozen_of_row w7 _ 3 _ _ hrq
          go_simp
          refine hK.out _ _ (⟨(World.cell?_of_block (a := ⟨w2.heap.size + 1, 0, none⟩) (heap_setCell_other w7 ⟨w2.heap.size, 3, none⟩ _ _ (by simp))).trans hHeld.1, (World.cell?_of_block (a := ⟨m, 0, none⟩) (heap_setCell_other w7 ⟨w2.heap.size, 3, none⟩ _ _ hmq)).trans hHeld.2⟩) (fun hHeld' => ?_)
          clear hHeld hK K
          have hHeld := hHeld'
          clear hHeld'
          try simp only [List.getElem_toArray, List.getElem_cons_zero, List.getElem_cons_succ, Act.put, List.setIfInBounds_toArray, List.set_cons_zero, List.set_cons_succ]
          refine wpAnyH_done (by kernel_rfl) ?_ _
          have hE := app_end HLG.out (Nat.lt_of_lt_of_le HLT.out.1 hw5) (Nat.lt_of_lt_of_le HLT.out.2 hw5) (show OwnB 5 W5.heap.size wd _ tx from HOd.out) HBd.out HG2.out HO2.out HAT.out
          have HOB := Lib.hid (fun k (e : (Value.slice a2 tx.length cp2).ownBlock = some k) => (show W5.heap.size ≤ k from (World.ownsRow.lt HOd.out k e).1))
          obtain ⟨v2, hv2⟩ : ∃ v2, Value.slice (some ⟨g2, 0, none⟩) (vs.length + 1) cap2 = v2 := ⟨_, rfl⟩
          rw [hv2] at hE hHeld ⊢
          obtain ⟨wx, hwx⟩ : ∃ wx, w7.setCell ⟨w2.heap.size, 3, none⟩ v2 = wx := ⟨_, rfl⟩
          rw [hwx] at hE hHeld ⊢
          have HE := Lib.hid hE
          have d11 := hHeld.1
          have dm0 := hHeld.2
          have cq4 : wx.cell? ⟨w2.heap.size, 4, none⟩ = some (.int .i64 (U : Int)) := by rw [← HUK.out.1]; exact cell_of_row wx _ 4 _ _ _ hE.1
          have fq4 : wx.frozen? ⟨w2.heap.size, 4, none⟩ = false := frozen_of_row wx _ 4 _ _ hE.1
          clear hE hHeld hv2 hwx HG2 HO2 HAT HBd HOd
          gi_wp2
          -- REG B2 BEGIN
          refine wpIn_region_held (S := fun W' => W'.cell? ⟨w2.heap.size + 1, 0, none⟩ = some (.pointer (some ⟨w2.heap.size, 0, none⟩)) ∧ W'.cell? ⟨m, 0, none⟩ = some (.slice (some ⟨gd, ox, none⟩) N cx)) (by kernel_rfl) (by kernel_rfl) (fun ⟨_, _, h⟩ => h) (⟨d11, dm0⟩) (fun hHeld => ?_)
          refine wpAnyH_take (i := 0) (v := ?v25) rfl (by kernel_rfl) (by kernel_rfl) (by kernel_rfl) (fun _ _ _ h => h) (Or.inl ⟨by rfl, ?y25⟩) (by assumption) ?r25
          case y25 =>
            intro w' hSw
            go_split_ands
            go_simp
            try with_reducible rfl
          try simp only [List.getElem_toArray, List.getElem_cons_zero, List.getElem_cons_succ, Act.put, List.setIfInBounds_toArray, List.set_cons_zero, List.set_cons_succ]
          refine wpAnyH_take (i := 1) (v := ?v26) rfl (by kernel_rfl) (by kernel_rfl) (by kernel_rfl) (fun _ _ _ h => h) (Or.inl ⟨by rfl, ?y26⟩) (by assumption) ?r26
          case y26 =>
            intro w' hSw
            go_split_ands
            go_simp
            try with_reducible rfl
          try simp only [List.getElem_toArray, List.getElem_cons_zero, List.getElem_cons_succ, Act.put, List.setIfInBounds_toArray, List.set_cons_zero, List.set_cons_succ]
          refine wpAnyH_take (i := 2) (v := ?v27) rfl (by kernel_rfl) (by kernel_rfl) (by kernel_rfl) (fun _ _ _ h => h) (Or.inl ⟨by rfl, ?y27⟩) (by assumption) ?r27
          case y27 =>
            intro w' hSw
            go_split_ands
            go_simp
            try with_reducible rfl
          try simp only [List.getElem_toArray, List.getElem_cons_zero, List.getElem_cons_succ, Act.put, List.setIfInBounds_toArray, List.set_cons_zero, List.set_cons_succ]
          refine wpAnyH_take (i := 4) (v := ?v28) rfl (by kernel_rfl) (by kernel_rfl) (by kernel_rfl) (fun _ _ _ h => h) (Or.inl ⟨by rfl, ?y28⟩) (by assumption) ?r28
          case y28 =>
            intro w' hSw
            go_split_ands
            go_simp
            try with_reducible rfl
          try simp only [List.getElem_toArray, List.getElem_cons_zero, List.getElem_cons_succ, Act.put, List.setIfInBounds_toArray, List.set_cons_zero, List.set_cons_succ]
          refine wpAnyH_take (i := 5) (v := ?v29) rfl (by kernel_rfl) (by kernel_rfl) (by kernel_rfl) (fun _ _ _ h => h) (Or.inl ⟨by rfl, ?y29⟩) (by assumption) ?r29
          case y29 =>
            intro w' hSw
            go_split_ands
            go_simp
            try with_reducible rfl
          try simp only [List.getElem_toArray, List.getElem_cons_zero, List.getElem_cons_succ, Act.put, List.setIfInBounds_toArray, List.set_cons_zero, List.set_cons_succ]
          refine wpAnyH_take (i := 6) (v := ?v30) rfl (by kernel_rfl) (by kernel_rfl) (by kernel_rfl) (fun _ _ _ h => h) (Or.inl ⟨by rfl, ?y30⟩) (by assumption) ?r30
          case y30 =>
            intro w' hSw
            go_split_ands
            go_simp
            try with_reducible rfl
          try simp only [List.getElem_toArray, List.getElem_cons_zero, List.getElem_cons_succ, Act.put, List.setIfInBounds_toArray, List.set_cons_zero, List.set_cons_succ]
          refine wpAnyH_ready (rs := [3, 7]) (by kernel_rfl) (by simp) ?_
          refine (AllReadyH.cons (i := 3) rfl (fun K hK => ?_) (AllReadyH.cons (i := 7) rfl (fun K hK => ?_) AllReadyH.nil))
          · go_simp
            refine hK.out _ _ (hHeld) (fun hHeld' => ?_)
            clear hHeld hK K
            have hHeld := hHeld'
            clear hHeld'
            try simp only [List.getElem_toArray, List.getElem_cons_zero, List.getElem_cons_succ, Act.put, List.setIfInBounds_toArray, List.set_cons_zero, List.set_cons_succ]
            refine wpAnyH_ready (rs := [7]) (by kernel_rfl) (by simp) ?_
            refine AllReadyH.cons (i := 7) rfl (fun K hK => ?_) AllReadyH.nil
            go_simp
            go_at_call 52
            (with_reducible refine Calls.mono (HTI.out _) ?_)
            rintro e w' ⟨rfl, rfl⟩
            refine hK.out _ _ (hHeld) (fun hHeld' => ?_)
            clear hHeld hK K
            have hHeld := hHeld'
            clear hHeld'
            try simp only [List.getElem_toArray, List.getElem_cons_zero, List.getElem_cons_succ, Act.put, List.setIfInBounds_toArray, List.set_cons_zero, List.set_cons_succ]
            refine wpAnyH_take (i := 8) (v := ?v31) rfl (by kernel_rfl) (by kernel_rfl) (by kernel_rfl) (fun _ _ _ h => h) (Or.inl ⟨by rfl, ?y31⟩) (by assumption) ?r31
            case y31 =>
              intro w' hSw
              go_split_ands
              go_simp
              try with_reducible rfl
            try simp only [List.getElem_toArray, List.getElem_cons_zero, List.getElem_cons_succ, Act.put, List.setIfInBounds_toArray, List.set_cons_zero, List.set_cons_succ]
            refine wpAnyH_take (i := 9) (v := ?v32) rfl (by kernel_rfl) (by kernel_rfl) (by kernel_rfl) (fun _ _ _ h => h) (Or.inl ⟨by rfl, ?y32⟩) (by assumption) ?r32
            case y32 =>
              intro w' hSw
              go_split_ands
              go_simp
              try with_reducible rfl
            try simp only [List.getElem_toArray, List.getElem_cons_zero, List.getElem_cons_succ, Act.put, List.setIfInBounds_toArray, List.set_cons_zero, List.set_cons_succ]
            refine wpAnyH_take (i := 10) (v := ?v33) rfl (by kernel_rfl) (by kernel_rfl) (by kernel_rfl) (fun _ _ _ h => h) (Or.inl ⟨by rfl, ?y33⟩) (by assumption) ?r33
            case y33 =>
              intro w' hSw
              go_split_ands
              go_simp
              try with_reducible rfl
            try simp only [List.getElem_toArray, List.getElem_cons_zero, List.getElem_cons_succ, Act.put, List.setIfInBounds_toArray, List.set_cons_zero, List.set_cons_succ]
            refine wpAnyH_ready (rs := [11]) (by kernel_rfl) (by simp) ?_
            refine AllReadyH.cons (i := 11) rfl (fun K hK => ?_) AllReadyH.nil
            go_simp
            refine hK.out _ _ (⟨(World.cell?_of_block (a := ⟨w2.heap.size + 1, 0, none⟩) (heap_setCell_other wx.drew ⟨w2.heap.size, 4, none⟩ _ _ (by simp))).trans hHeld.1, (World.cell?_of_block (a := ⟨m, 0, none⟩) (heap_setCell_other wx.drew ⟨w2.heap.size, 4, none⟩ _ _ hmq)).trans hHeld.2⟩) (fun hHeld' => ?_)
            clear hHeld hK K
            have hHeld := hHeld'
            clear hHeld'
            try simp only [List.getElem_toArray, List.getElem_cons_zero, List.getElem_cons_succ, Act.put, List.setIfInBounds_toArray, List.set_cons_zero, List.set_cons_succ]
            refine wpAnyH_done (by kernel_rfl) ?_ _
            have hF := HIW.out.fin HLG.out HVT.out.1 HV0.out HVT.out.2 (by have := HSZ.out; have := HF.out; omega) (by have := HF.out; omega) HE.out.1 HE.out.2.1 HE.out.2.2.1 HE.out.2.2.2 HOB.out U K HUK.out.1 HUK.out.2.1 HUK.out.2.2
            gi_wp2
            exact ⟨hF.1, hF.2.1, ts ++ [tx], ⟨tx, HFD.out, rfl⟩, hF.2.2⟩
          · go_simp
            go_at_call 52
            (with_reducible refine Calls.mono (HTI.out _) ?_)
            rintro e w' ⟨rfl, rfl⟩
            refine hK.out _ _ (hHeld) (fun hHeld' => ?_)
            clear hHeld hK K
            have hHeld := hHeld'
            clear hHeld'
            try simp only [List.getElem_toArray, List.getElem_cons_zero, List.getElem_cons_succ, Act.put, List.setIfInBounds_toArray, List.set_cons_zero, List.set_cons_succ]
            refine wpAnyH_ready (rs := [3]) (by kernel_rfl) (by simp) ?_
            refine AllReadyH.cons (i := 3) rfl (fun K hK => ?_) AllReadyH.nil
            go_simp
            refine hK.out _ _ (hHeld) (fun hHeld' => ?_)
            clear hHeld hK K
            have hHeld := hHeld'
            clear hHeld'
            try simp only [List.getElem_toArray, List.getElem_cons_zero, List.getElem_cons_succ, Act.put, List.setIfInBounds_toArray, List.set_cons_zero, List.set_cons_succ]
            refine wpAnyH_take (i := 8) (v := ?v34) rfl (by kernel_rfl) (by kernel_rfl) (by kernel_rfl) (fun _ _ _ h => h) (Or.inl ⟨by rfl, ?y34⟩) (by assumption) ?r34
            case y34 =>
              intro w' hSw
              go_split_ands
              go_simp
              try with_reducible rfl
            try simp only [List.getElem_toArray, List.getElem_cons_zero, List.getElem_cons_succ, Act.put, List.setIfInBounds_toArray, List.set_cons_zero, List.set_cons_succ]
            refine wpAnyH_take (i := 9) (v := ?v35) rfl (by kernel_rfl) (by kernel_rfl) (by kernel_rfl) (fun _ _ _ h => h) (Or.inl ⟨by rfl, ?y35⟩) (by assumption) ?r35
            case y35 =>
              intro w' hSw
              go_split_ands
              go_simp
              try with_reducible rfl
            try simp only [List.getElem_toArray, List.getElem_cons_zero, List.getElem_cons_succ, Act.put, List.setIfInBounds_toArray, List.set_cons_zero, List.set_cons_succ]
            refine wpAnyH_take (i := 10) (v := ?v36) rfl (by kernel_rfl) (by kernel_rfl) (by kernel_rfl) (fun _ _ _ h => h) (Or.inl ⟨by rfl, ?y36⟩) (by assumption) ?r36
            case y36 =>
              intro w' hSw
              go_split_ands
              go_simp
              try with_reducible rfl
            try simp only [List.getElem_toArray, List.getElem_cons_zero, List.getElem_cons_succ, Act.put, List.setIfInBounds_toArray, List.set_cons_zero, List.set_cons_succ]
            refine wpAnyH_ready (rs := [11]) (by kernel_rfl) (by simp) ?_
            refine AllReadyH.cons (i := 11) rfl (fun K hK => ?_) AllReadyH.nil
            go_simp
            refine hK.out _ _ (⟨(World.cell?_of_block (a := ⟨w2.heap.size + 1, 0, none⟩) (heap_setCell_other wx.drew ⟨w2.heap.size, 4, none⟩ _ _ (by simp))).trans hHeld.1, (World.cell?_of_block (a := ⟨m, 0, none⟩) (heap_setCell_other wx.drew ⟨w2.heap.size, 4, none⟩ _ _ hmq)).trans hHeld.2⟩) (fun hHeld' => ?_)
            clear hHeld hK K
            have hHeld := hHeld'
            clear hHeld'
            try simp only [List.getElem_toArray, List.getElem_cons_zero, List.getElem_cons_succ, Act.put, List.setIfInBounds_toArray, List.set_cons_zero, List.set_cons_succ]
            refine wpAnyH_done (by kernel_rfl) ?_ _
            have hF := HIW.out.fin HLG.out HVT.out.1 HV0.out HVT.out.2 (by have := HSZ.out; have := HF.out; omega) (by have := HF.out; omega) HE.out.1 HE.out.2.1 HE.out.2.2.1 HE.out.2.2.2 HOB.out U K HUK.out.1 HUK.out.2.1 HUK.out.2.2
            gi_wp2
            exact ⟨hF.1, hF.2.1, ts ++ [tx], ⟨tx, HFD.out, rfl⟩, hF.2.2⟩
          -- REG B2 END
        · go_simp
          refine hK.out _ _ (⟨(((Below.refl wd.heap.size wd).alloc (Nat.le_refl _) _).cell (p := ⟨w2.heap.size + 1, 0, none⟩) (Nat.lt_of_lt_of_le hq1w HBd.out.size)).trans hHeld.1, (((Below.refl wd.heap.size wd).alloc (Nat.le_refl _) _).cell (p := ⟨m, 0, none⟩) (Nat.lt_of_lt_of_le hmw HBd.out.size)).trans hHeld.2⟩) (fun hHeld' => ?_)
          clear hHeld hK K
          have hHeld := hHeld'
          clear hHeld'
          try simp only [List.getElem_toArray, List.getElem_cons_zero, List.getElem_cons_succ, Act.put, List.setIfInBounds_toArray, List.set_cons_zero, List.set_cons_succ]
          refine wpAnyH_ready (rs := [4]) (by kernel_rfl) (by simp) ?_
          refine AllReadyH.cons (i := 4) rfl (fun K hK => ?_) AllReadyH.nil
          have c3 : (wd.alloc (.cells #[.slice a2 tx.length cp2] 22)).cell? ⟨w2.heap.size, 3, none⟩ = some vt := (((Below.refl wd.heap.size wd).alloc (Nat.le_refl _) _).cell (p := ⟨w2.heap.size, 3, none⟩) (Nat.lt_of_lt_of_le hqw HBd.out.size)).trans ((HBd.out.cell (p := ⟨w2.heap.size, 3, none⟩) hqw).trans HLG.out.c3)
          go_simp
          refine hK.out _ _ (hHeld) (fun hHeld' => ?_)
          clear hHeld hK K
          have hHeld := hHeld'
          clear hHeld'
          try simp only [List.getElem_toArray, List.getElem_cons_zero, List.getElem_cons_succ, Act.put, List.setIfInBounds_toArray, List.set_cons_zero, List.set_cons_succ]
          refine wpAnyH_ready (rs := [9]) (by kernel_rfl) (by simp) ?_
          refine AllReadyH.cons (i := 9) rfl (fun K hK => ?_) AllReadyH.nil
          refine any_of_list (by rfl) (fun Q' hQ' => ?_)
          try simp only [List.getElem_toArray, List.getElem_cons_zero, List.getElem_cons_succ]
          refine wpList_append_l1 rfl (.tmp 64) (.tmp 68) 47 22 rfl Try.underlying47 info_sl vt vs ((HLG.out.tx.own.below (B := W5.heap.size) HBd.out (Nat.le_refl _)).alloc _) rfl wd.heap.size (.slice a2 _ cp2) rfl (cell_new1 _ _ _) rfl HVL.out ?_
          intro v2 w7 ho hg hat
          have HO2 := Lib.hid ho
          have HG2 := Lib.hid hg
          have HAT := Lib.hid hat
          obtain ⟨g2, cap2, hv2⟩ := ho.form1
          subst hv2
          clear ho hg hat
          refine hQ' _ _ (hK.out _ _ (⟨(World.cell?_of_block (a := ⟨w2.heap.size + 1, 0, none⟩) (HG2.out.block _ (by have := HBd.out.size; simp; omega) hnq)).trans hHeld.1, (World.cell?_of_block (a := ⟨m, 0, none⟩) (HG2.out.block _ (by have := HBd.out.size; simp; omega) hnm)).trans hHeld.2⟩) (fun hHeld' => ?_))
          clear hHeld hK K hQ' Q'
          have hHeld := hHeld'
          clear hHeld'
          try simp only [List.getElem_toArray, List.getElem_cons_zero, List.getElem_cons_succ, Act.put, List.setIfInBounds_toArray, List.set_cons_zero, List.set_cons_succ]
          refine wpAnyH_take (i := 10) (v := ?v11) rfl (by kernel_rfl) (by kernel_rfl) (by kernel_rfl) (fun _ _ _ h => h) (Or.inl ⟨by rfl, ?y11⟩) (by assumption) ?r11
          case y11 =>
            intro w' hSw
            go_split_ands
            go_simp
            try with_reducible rfl
          try simp only [List.getElem_toArray, List.getElem_cons_zero, List.getElem_cons_succ, Act.put, List.setIfInBounds_toArray, List.set_cons_zero, List.set_cons_succ]
          refine wpAnyH_take (i := 11) (v := ?v12) rfl (by kernel_rfl) (by kernel_rfl) (by kernel_rfl) (fun _ _ _ h => h) (Or.inl ⟨by rfl, ?y12⟩) (by assumption) ?r12
          case y12 =>
            intro w' hSw
            go_split_ands
            go_simp
            try with_reducible rfl
          try simp only [List.getElem_toArray, List.getElem_cons_zero, List.getElem_cons_succ, Act.put, List.setIfInBounds_toArray, List.set_cons_zero, List.set_cons_succ]
          refine wpAnyH_ready (rs := [12]) (by kernel_rfl) (by simp) ?_
          refine AllReadyH.cons (i := 12) rfl (fun K hK => ?_) AllReadyH.nil
          have hrq := app_row HLG.out HBd.out HG2.out
          have c3 : w7.cell? ⟨w2.heap.size, 3, none⟩ = some vt := cell_of_row w7 _ 3 _ _ _ hrq
          have f3 : w7.frozen? ⟨w2.heap.size, 3, none⟩ = false := frozen_of_row w7 _ 3 _ _ hrq
          go_simp
          refine hK.out _ _ (⟨(World.cell?_of_block (a := ⟨w2.heap.size + 1, 0, none⟩) (heap_setCell_other w7 ⟨w2.heap.size, 3, none⟩ _ _ (by simp))).trans hHeld.1, (World.cell?_of_block (a := ⟨m, 0, none⟩) (heap_setCell_other w7 ⟨w2.heap.size, 3, none⟩ _ _ hmq)).trans hHeld.2⟩) (fun hHeld' => ?_)
          clear hHeld hK K
          have hHeld := hHeld'
          clear hHeld'
          try simp only [List.getElem_toArray, List.getElem_cons_zero, List.getElem_cons_succ, Act.put, List.setIfInBounds_toArray, List.set_cons_zero, List.set_cons_succ]
          refine wpAnyH_done (by kernel_rfl) ?_ _
          have hE := app_end HLG.out (Nat.lt_of_lt_of_le HLT.out.1 hw5) (Nat.lt_of_lt_of_le HLT.out.2 hw5) (show OwnB 5 W5.heap.size wd _ tx from HOd.out) HBd.out HG2.out HO2.out HAT.out
          have HOB := Lib.hid (fun k (e : (Value.slice a2 tx.length cp2).ownBlock = some k) => (show W5.heap.size ≤ k from (World.ownsRow.lt HOd.out k e).1))
          obtain ⟨v2, hv2⟩ : ∃ v2, Value.slice (some ⟨g2, 0, none⟩) (vs.length + 1) cap2 = v2 := ⟨_, rfl⟩
          rw [hv2] at hE hHeld ⊢
          obtain ⟨wx, hwx⟩ : ∃ wx, w7.setCell ⟨w2.heap.size, 3, none⟩ v2 = wx := ⟨_, rfl⟩
          rw [hwx] at hE hHeld ⊢
          have HE := Lib.hid hE
          have d11 := hHeld.1
          have dm0 := hHeld.2
          have cq4 : wx.cell? ⟨w2.heap.size, 4, none⟩ = some (.int .i64 (U : Int)) := by rw [← HUK.out.1]; exact cell_of_row wx _ 4 _ _ _ hE.1
          have fq4 : wx.frozen? ⟨w2.heap.size, 4, none⟩ = false := frozen_of_row wx _ 4 _ _ hE.1
          clear hE hHeld hv2 hwx HG2 HO2 HAT HBd HOd
          gi_wp2
          -- REG B3 BEGIN
          refine wpIn_region_held (S := fun W' => W'.cell? ⟨w2.heap.size + 1, 0, none⟩ = some (.pointer (some ⟨w2.heap.size, 0, none⟩)) ∧ W'.cell? ⟨m, 0, none⟩ = some (.slice (some ⟨gd, ox, none⟩) N cx)) (by kernel_rfl) (by kernel_rfl) (fun ⟨_, _, h⟩ => h) (⟨d11, dm0⟩) (fun hHeld => ?_)
          refine wpAnyH_take (i := 0) (v := ?v37) rfl (by kernel_rfl) (by kernel_rfl) (by kernel_rfl) (fun _ _ _ h => h) (Or.inl ⟨by rfl, ?y37⟩) (by assumption) ?r37
          case y37 =>
            intro w' hSw
            go_split_ands
            go_simp
            try with_reducible rfl
          try simp only [List.getElem_toArray, List.getElem_cons_zero, List.getElem_cons_succ, Act.put, List.setIfInBounds_toArray, List.set_cons_zero, List.set_cons_succ]
          refine wpAnyH_take (i := 1) (v := ?v38) rfl (by kernel_rfl) (by kernel_rfl) (by kernel_rfl) (fun _ _ _ h => h) (Or.inl ⟨by rfl, ?y38⟩) (by assumption) ?r38
          case y38 =>
            intro w' hSw
            go_split_ands
            go_simp
            try with_reducible rfl
          try simp only [List.getElem_toArray, List.getElem_cons_zero, List.getElem_cons_succ, Act.put, List.setIfInBounds_toArray, List.set_cons_zero, List.set_cons_succ]
          refine wpAnyH_take (i := 2) (v := ?v39) rfl (by kernel_rfl) (by kernel_rfl) (by kernel_rfl) (fun _ _ _ h => h) (Or.inl ⟨by rfl, ?y39⟩) (by assumption) ?r39
          case y39 =>
            intro w' hSw
            go_split_ands
            go_simp
            try with_reducible rfl
          try simp only [List.getElem_toArray, List.getElem_cons_zero, List.getElem_cons_succ, Act.put, List.setIfInBounds_toArray, List.set_cons_zero, List.set_cons_succ]
          refine wpAnyH_take (i := 4) (v := ?v40) rfl (by kernel_rfl) (by kernel_rfl) (by kernel_rfl) (fun _ _ _ h => h) (Or.inl ⟨by rfl, ?y40⟩) (by assumption) ?r40
          case y40 =>
            intro w' hSw
            go_split_ands
            go_simp
            try with_reducible rfl
          try simp only [List.getElem_toArray, List.getElem_cons_zero, List.getElem_cons_succ, Act.put, List.setIfInBounds_toArray, List.set_cons_zero, List.set_cons_succ]
          refine wpAnyH_take (i := 5) (v := ?v41) rfl (by kernel_rfl) (by kernel_rfl) (by kernel_rfl) (fun _ _ _ h => h) (Or.inl ⟨by rfl, ?y41⟩) (by assumption) ?r41
          case y41 =>
            intro w' hSw
            go_split_ands
            go_simp
            try with_reducible rfl
          try simp only [List.getElem_toArray, List.getElem_cons_zero, List.getElem_cons_succ, Act.put, List.setIfInBounds_toArray, List.set_cons_zero, List.set_cons_succ]
          refine wpAnyH_take (i := 6) (v := ?v42) rfl (by kernel_rfl) (by kernel_rfl) (by kernel_rfl) (fun _ _ _ h => h) (Or.inl ⟨by rfl, ?y42⟩) (by assumption) ?r42
          case y42 =>
            intro w' hSw
            go_split_ands
            go_simp
            try with_reducible rfl
          try simp only [List.getElem_toArray, List.getElem_cons_zero, List.getElem_cons_succ, Act.put, List.setIfInBounds_toArray, List.set_cons_zero, List.set_cons_succ]
          refine wpAnyH_ready (rs := [3, 7]) (by kernel_rfl) (by simp) ?_
          refine (AllReadyH.cons (i := 3) rfl (fun K hK => ?_) (AllReadyH.cons (i := 7) rfl (fun K hK => ?_) AllReadyH.nil))
          · go_simp
            refine hK.out _ _ (hHeld) (fun hHeld' => ?_)
            clear hHeld hK K
            have hHeld := hHeld'
            clear hHeld'
            try simp only [List.getElem_toArray, List.getElem_cons_zero, List.getElem_cons_succ, Act.put, List.setIfInBounds_toArray, List.set_cons_zero, List.set_cons_succ]
            refine wpAnyH_ready (rs := [7]) (by kernel_rfl) (by simp) ?_
            refine AllReadyH.cons (i := 7) rfl (fun K hK => ?_) AllReadyH.nil
            go_simp
            go_at_call 52
            (with_reducible refine Calls.mono (HTI.out _) ?_)
            rintro e w' ⟨rfl, rfl⟩
            refine hK.out _ _ (hHeld) (fun hHeld' => ?_)
            clear hHeld hK K
            have hHeld := hHeld'
            clear hHeld'
            try simp only [List.getElem_toArray, List.getElem_cons_zero, List.getElem_cons_succ, Act.put, List.setIfInBounds_toArray, List.set_cons_zero, List.set_cons_succ]
            refine wpAnyH_take (i := 8) (v := ?v43) rfl (by kernel_rfl) (by kernel_rfl) (by kernel_rfl) (fun _ _ _ h => h) (Or.inl ⟨by rfl, ?y43⟩) (by assumption) ?r43
            case y43 =>
              intro w' hSw
              go_split_ands
              go_simp
              try with_reducible rfl
            try simp only [List.getElem_toArray, List.getElem_cons_zero, List.getElem_cons_succ, Act.put, List.setIfInBounds_toArray, List.set_cons_zero, List.set_cons_succ]
            refine wpAnyH_take (i := 9) (v := ?v44) rfl (by kernel_rfl) (by kernel_rfl) (by kernel_rfl) (fun _ _ _ h => h) (Or.inl ⟨by rfl, ?y44⟩) (by assumption) ?r44
            case y44 =>
              intro w' hSw
              go_split_ands
              go_simp
              try with_reducible rfl
            try simp only [List.getElem_toArray, List.getElem_cons_zero, List.getElem_cons_succ, Act.put, List.setIfInBounds_toArray, List.set_cons_zero, List.set_cons_succ]
            refine wpAnyH_take (i := 10) (v := ?v45) rfl (by kernel_rfl) (by kernel_rfl) (by kernel_rfl) (fun _ _ _ h => h) (Or.inl ⟨by rfl, ?y45⟩) (by assumption) ?r45
            case y45 =>
              intro w' hSw
              go_split_ands
              go_simp
              try with_reducible rfl
            try simp only [List.getElem_toArray, List.getElem_cons_zero, List.getElem_cons_succ, Act.put, List.setIfInBounds_toArray, List.set_cons_zero, List.set_cons_succ]
            refine wpAnyH_ready (rs := [11]) (by kernel_rfl) (by simp) ?_
            refine AllReadyH.cons (i := 11) rfl (fun K hK => ?_) AllReadyH.nil
            go_simp
            refine hK.out _ _ (⟨(World.cell?_of_block (a := ⟨w2.heap.size + 1, 0, none⟩) (heap_setCell_other wx.drew ⟨w2.heap.size, 4, none⟩ _ _ (by simp))).trans hHeld.1, (World.cell?_of_block (a := ⟨m, 0, none⟩) (heap_setCell_other wx.drew ⟨w2.heap.size, 4, none⟩ _ _ hmq)).trans hHeld.2⟩) (fun hHeld' => ?_)
            clear hHeld hK K
            have hHeld := hHeld'
            clear hHeld'
            try simp only [List.getElem_toArray, List.getElem_cons_zero, List.getElem_cons_succ, Act.put, List.setIfInBounds_toArray, List.set_cons_zero, List.set_cons_succ]
            refine wpAnyH_done (by kernel_rfl) ?_ _
            have hF := HIW.out.fin HLG.out HVT.out.1 HV0.out HVT.out.2 (by have := HSZ.out; have := HF.out; omega) (by have := HF.out; omega) HE.out.1 HE.out.2.1 HE.out.2.2.1 HE.out.2.2.2 HOB.out U K HUK.out.1 HUK.out.2.1 HUK.out.2.2
            gi_wp2
            exact ⟨hF.1, hF.2.1, ts ++ [tx], ⟨tx, HFD.out, rfl⟩, hF.2.2⟩
          · go_simp
            go_at_call 52
            (with_reducible refine Calls.mono (HTI.out _) ?_)
            rintro e w' ⟨rfl, rfl⟩
            refine hK.out _ _ (hHeld) (fun hHeld' => ?_)
            clear hHeld hK K
            have hHeld := hHeld'
            clear hHeld'
            try simp only [List.getElem_toArray, List.getElem_cons_zero, List.getElem_cons_succ, Act.put, List.setIfInBounds_toArray, List.set_cons_zero, List.set_cons_succ]
            refine wpAnyH_ready (rs := [3]) (by kernel_rfl) (by simp) ?_
            refine AllReadyH.cons (i := 3) rfl (fun K hK => ?_) AllReadyH.nil
            go_simp
            refine hK.out _ _ (hHeld) (fun hHeld' => ?_)
            clear hHeld hK K
            have hHeld := hHeld'
            clear hHeld'
            try simp only [List.getElem_toArray, List.getElem_cons_zero, List.getElem_cons_succ, Act.put, List.setIfInBounds_toArray, List.set_cons_zero, List.set_cons_succ]
            refine wpAnyH_take (i := 8) (v := ?v46) rfl (by kernel_rfl) (by kernel_rfl) (by kernel_rfl) (fun _ _ _ h => h) (Or.inl ⟨by rfl, ?y46⟩) (by assumption) ?r46
            case y46 =>
              intro w' hSw
              go_split_ands
              go_simp
              try with_reducible rfl
            try simp only [List.getElem_toArray, List.getElem_cons_zero, List.getElem_cons_succ, Act.put, List.setIfInBounds_toArray, List.set_cons_zero, List.set_cons_succ]
            refine wpAnyH_take (i := 9) (v := ?v47) rfl (by kernel_rfl) (by kernel_rfl) (by kernel_rfl) (fun _ _ _ h => h) (Or.inl ⟨by rfl, ?y47⟩) (by assumption) ?r47
            case y47 =>
              intro w' hSw
              go_split_ands
              go_simp
              try with_reducible rfl
            try simp only [List.getElem_toArray, List.getElem_cons_zero, List.getElem_cons_succ, Act.put, List.setIfInBounds_toArray, List.set_cons_zero, List.set_cons_succ]
            refine wpAnyH_take (i := 10) (v := ?v48) rfl (by kernel_rfl) (by kernel_rfl) (by kernel_rfl) (fun _ _ _ h => h) (Or.inl ⟨by rfl, ?y48⟩) (by assumption) ?r48
            case y48 =>
              intro w' hSw
              go_split_ands
              go_simp
              try with_reducible rfl
            try simp only [List.getElem_toArray, List.getElem_cons_zero, List.getElem_cons_succ, Act.put, List.setIfInBounds_toArray, List.set_cons_zero, List.set_cons_succ]
            refine wpAnyH_ready (rs := [11]) (by kernel_rfl) (by simp) ?_
            refine AllReadyH.cons (i := 11) rfl (fun K hK => ?_) AllReadyH.nil
            go_simp
            refine hK.out _ _ (⟨(World.cell?_of_block (a := ⟨w2.heap.size + 1, 0, none⟩) (heap_setCell_other wx.drew ⟨w2.heap.size, 4, none⟩ _ _ (by simp))).trans hHeld.1, (World.cell?_of_block (a := ⟨m, 0, none⟩) (heap_setCell_other wx.drew ⟨w2.heap.size, 4, none⟩ _ _ hmq)).trans hHeld.2⟩) (fun hHeld' => ?_)
            clear hHeld hK K
            have hHeld := hHeld'
            clear hHeld'
            try simp only [List.getElem_toArray, List.getElem_cons_zero, List.getElem_cons_succ, Act.put, List.setIfInBounds_toArray, List.set_cons_zero, List.set_cons_succ]
            refine wpAnyH_done (by kernel_rfl) ?_ _
            have hF := HIW.out.fin HLG.out HVT.out.1 HV0.out HVT.out.2 (by have := HSZ.out; have := HF.out; omega) (by have := HF.out; omega) HE.out.1 HE.out.2.1 HE.out.2.2.1 HE.out.2.2.2 HOB.out U K HUK.out.1 HUK.out.2.1 HUK.out.2.2
            gi_wp2
            exact ⟨hF.1, hF.2.1, ts ++ [tx], ⟨tx, HFD.out, rfl⟩, hF.2.2⟩
          -- REG B3 END
      -- REG A END
  case done =>
    rintro ts W4 hp hI hK
    clear HRR HALL HRD HS H67 hb4 hz4 hr4 hsl hb2 hsl4 hI0 hq hq1 hc6 hc7 hwl hB42
    have c6 : W4.cell? ⟨w.heap.size, 0, none⟩ = some (.pointer none) := cell_of_row _ _ 0 _ _ _ hI.ret0
    have c7 : W4.cell? ⟨w.heap.size + 1, 0, none⟩ = some (.int .i64 0) := cell_of_row _ _ 0 _ _ _ hI.ret1
    have c11 : W4.cell? ⟨w2.heap.size + 1, 0, none⟩ = some (.pointer (some ⟨w2.heap.size, 0, none⟩)) := cell_of_row _ _ 0 _ _ _ hI.ptr
    have f6 : W4.frozen? ⟨w.heap.size, 0, none⟩ = false := frozen_of_row _ _ 0 _ _ hI.ret0
    have f7 : W4.frozen? ⟨w.heap.size + 1, 0, none⟩ = false := frozen_of_row _ _ 0 _ _ hI.ret1
    have HI := Lib.hid hI
    have HK := Lib.hid hK
    have HP := Lib.hid hp
    clear hI hK hp
    gi_wp2
    obtain ⟨vt, vs, hl, hv, hvx⟩ := HI.out.out (by have := HF.out; omega) (by have := HF.out; omega) (.pointer (some ⟨w2.heap.size, 0, none⟩)) (.int .i64 0)
    obtain ⟨r1, r2, r3⟩ := two_out HI.out.below HI.out.ret0 HI.out.ret1 (Nat.le_refl _) (.pointer (some ⟨w2.heap.size, 0, none⟩)) (.int .i64 0)
    have hf := HF.out
    have hK' : ((W4.setCell ⟨w.heap.size, 0, none⟩ (.pointer (some ⟨w2.heap.size, 0, none⟩))).setCell ⟨w.heap.size + 1, 0, none⟩ (.int .i64 0)).heap[w4.heap.size]? = some (.deferred (some [])) :=
      (heap_setCell_other _ ⟨w.heap.size + 1, 0, none⟩ _ _ (by simp; omega)).trans ((heap_setCell_other _ ⟨w.heap.size, 0, none⟩ _ _ (by simp; omega)).trans HK.out)
    generalize (W4.setCell ⟨w.heap.size, 0, none⟩ (.pointer (some ⟨w2.heap.size, 0, none⟩))).setCell ⟨w.heap.size + 1, 0, none⟩ (.int .i64 0) = X at *
    have hgp := grownBy_putObj' X w4.heap.size (.deferred none)
    have hrw : ∀ r, some w4.heap.size = some r → ∃ o : Obj, X.heap[r]? = some o ∧ o.isCells = false := fun r e => by cases e; exact ⟨_, hK', rfl⟩
    have s1 := cell_kept r1 hgp hrw
    have s2 := cell_kept r2 hgp hrw
    refine ⟨by simp, .inl ⟨_, _, rfl, run_takeDeferred hK', ?_⟩⟩
    refine ⟨.tuple #[.pointer (some ⟨w2.heap.size, 0, none⟩), .int .i64 0], by simp [results, Try.results31, go_sem, s1, s2], r3.grown hgp r3.size (fun k e => by cases e; omega), ?_⟩
    rw [← HR.out, HP.out]
    exact ⟨rfl, w2.heap.size, vt, vs, rfl, hl.nonCells hgp hrw, by omega, fun k e => by have := hv k e; omega, fun i k e => by have := hvx i k e; omega⟩
  case stop =>
    rintro ts W4 hp hX hK
    clear HRR HALL HRD HS H67 hb4 hz4 hr4 hsl hb2 hsl4 hI0 hq hq1 hc6 hc7 hwl hB42
    have hgp := grownBy_putObj' W4 w4.heap.size (.deferred none)
    have hrw : ∀ r, some w4.heap.size = some r → ∃ o : Obj, W4.heap[r]? = some o ∧ o.isCells = false := fun r e => by cases e; exact ⟨_, hK, rfl⟩
    have s1 := cell_kept (cell_of_row _ _ 0 _ _ _ hX.ret0 : W4.cell? ⟨w.heap.size, 0, none⟩ = some (.pointer none)) hgp hrw
    have s2 := cell_kept (cell_of_row _ _ 0 _ _ _ hX.ret1 : W4.cell? ⟨w.heap.size + 1, 0, none⟩ = some (.int .i64 9)) hgp hrw
    have hB := hX.below.grown hgp hX.below.size (fun k e => by cases e; have := HF.out; omega)
    have HE := Lib.hid (And.intro s1 (And.intro s2 (And.intro hB (And.intro hp hK))))
    clear hgp hrw s1 s2 hB hp hK hX
    gi_wp2
    obtain ⟨s1, s2, hB, hp, hK⟩ := HE.out
    refine ⟨by simp, .inl ⟨_, _, rfl, run_takeDeferred hK, ?_⟩⟩
    refine ⟨.tuple #[.pointer none, .int .i64 9], by simp [results, Try.results31, go_sem, s1, s2], hB, ?_⟩
    rw [← HR.out, hp]
    rfl

/-- Open, on a disk. -/
theorem slo_open {w : World} {p g : Nat} {d : Dk.D} (hD : DiskAt w p g d) (fr n : Int) (h0 : -9223372036854775808 ≤ n) (h1 : n ≤ 9223372036854775807) :
    Calls Try.prog 31 #[.pointer (some ⟨p, 0, none⟩), .int .i64 fr, .int .i64 n] w (OpenR w p g (Slo.open_ d fr n)) := by
  by_cases hbad : fr < 0 ∨ n < 1 ∨ ((d.b.length / 128 : Nat) : Int) < n ∨ ((d.b.length / 128 : Nat) : Int) - n < fr
  · have e : Slo.open_ d fr n = (none, 2) := by unfold Slo.open_; rw [if_pos hbad]
    rw [e]
    exact open_arg hD fr n h0 h1 hbad
  · by_cases hoff : d.off = true
    · have e : Slo.open_ d fr n = (none, 12) := by unfold Slo.open_; rw [if_neg hbad, if_pos hoff]
      rw [e]
      exact open_off hD fr n (by omega) (by omega) (by omega) hoff
    · obtain ⟨f, rfl⟩ : ∃ f : Nat, fr = f := ⟨fr.toNat, by omega⟩
      obtain ⟨m, rfl⟩ : ∃ m : Nat, n = m := ⟨n.toNat, by omega⟩
      have e : Slo.open_ d (f : Int) (m : Int) = if (Slo.parse m (Slo.region d f m)).2 = true then (some ⟨f, m, (Slo.parse m (Slo.region d f m)).1, Slo.used (Slo.parse m (Slo.region d f m)).1, false⟩, 0) else (none, 9) := by
        unfold Slo.open_
        rw [if_neg hbad, if_neg hoff]
        simp only [Int.toNat_natCast]
      rw [e]
      exact open_go hD f m (by omega) (by omega) (by simpa using hoff)
end Go.Proofs.Ytdnjjemdnlegdaa
namespace Go.Proofs.Ytdnjjemdnlegdaa
set_option linter.unusedVariables false
set_option linter.unusedSimpArgs false
open Go Go.RowKit

/-- The text of bytes. -/
def strB (xs : List (BitVec 8)) : ByteArray := strOfNums (xs.map bv)
theorem strB_nil : strB [] = ByteArray.empty := rfl
theorem strB_size (xs : List (BitVec 8)) : (strB xs).size = xs.length := by simp [strB, strOfNums_size]
theorem strB_inj {xs ys : List (BitVec 8)} (h : strB xs = strB ys) : xs = ys := by
  have hd : (strOfNums (xs.map bv)).data.toList = (strOfNums (ys.map bv)).data.toList := by unfold strB at h; rw [h]
  rw [strOfNums_data, strOfNums_data, List.map_map, List.map_map] at hd
  have hf : ∀ x : BitVec 8, (UInt8.ofNat (bv x).toNat).toBitVec = x := fun x => by
    apply BitVec.eq_of_toNat_eq
    have := x.isLt
    simp [bv]
  have h2 := congrArg (List.map UInt8.toBitVec) hd
  simp only [List.map_map] at h2
  have e : (UInt8.toBitVec ∘ (fun n : Int => UInt8.ofNat n.toNat) ∘ bv) = id := by funext x; exact hf x
  rwa [e, List.map_id, List.map_id] at h2
theorem conv_any {w : World} {v : Value} {xs : List (BitVec 8)} (h : SlB w v xs) : (convert 22 9 v).run Try.prog w = .ok (.string (strB xs)) w := by
  rcases h with ⟨⟨_ | ad, rfl⟩, rfl⟩ | ⟨b, off, cap, rfl, h1, h2, h3, h4⟩
  · rw [strB_nil]
    exact run_convert_bytes_nil w 22 5 Try.underlying22 Try.underlying5 0 0 9 Try.underlying9
  · rw [run_convert_bytes_string w 22 9 5 _ 0 0 Try.underlying22 Try.underlying5 Try.underlying9, run_bytesToString w _ 0 0 [] (by simp [loadCells, loadCellsFrom])]
    rfl
  · refine run_convert_bytes_arg w 22 5 Try.underlying22 Try.underlying5 b off xs.length cap (xs.map bv) (by simp) (fun i hi => ?_) 9 Try.underlying9
    rw [h4 i hi]
    simp [byteV, List.getD, List.getElem?_map, List.getElem?_eq_getElem hi]
/-- Where a slice's bytes lie. -/
theorem SlB.lt {w : World} {v : Value} {xs : List (BitVec 8)} (h : SlB w v xs) (hx : xs ≠ []) : ∀ k, v.ownBlock = some k → k < w.heap.size := by
  rcases h with ⟨_, rfl⟩ | ⟨b, off, cap, rfl, h1, h2, h3, h4⟩
  · exact absurd rfl hx
  · intro k hk
    simp only [Value.ownBlock, Option.some.injEq] at hk
    subst hk
    exact h3
/-- A slice lies apart from new blocks. -/
theorem SlB.keptN {l : List Nat} {w w' : World} {v : Value} {xs : List (BitVec 8)} {B : Nat} (h : SlB w v xs) (hk : Kept l w w') (hl : ∀ k, k ∈ l → B ≤ k) (hv : xs ≠ [] → ∀ k, v.ownBlock = some k → k < B) : SlB w' v xs := by
  by_cases hx : xs = []
  · subst hx
    rcases h with h | ⟨b, off, cap, rfl, h1, h2, h3, h4⟩
    · exact .inl h
    · exact .inr ⟨b, off, cap, rfl, h1, h2, Nat.lt_of_lt_of_le h3 hk.size, fun j hj => absurd hj (by simp)⟩
  · exact h.keptV hk (fun k e hm => by have := hl k hm; have := hv hx k e; omega)
/-- The first k bytes. -/
theorem SlB.upTo {w : World} {a : Option Addr} {len cap : Nat} {xs : List (BitVec 8)} (h : SlB w (.slice a len cap) xs) (k : Nat) (hk : k ≤ len) : SlB w (.slice a k cap) (xs.take k) := by
  rcases h with ⟨⟨a', e⟩, rfl⟩ | ⟨b, off, c, e, h1, h2, h3, h4⟩
  · simp only [Value.slice.injEq] at e
    obtain ⟨rfl, rfl, rfl⟩ := e
    obtain rfl : k = 0 := by omega
    exact .inl ⟨⟨_, rfl⟩, by simp⟩
  · simp only [Value.slice.injEq] at e
    obtain ⟨rfl, rfl, rfl⟩ := e
    exact SlB.take (.inr ⟨b, off, cap, rfl, h1, h2, h3, h4⟩) k hk
/-- The bytes from k on, as the walk spells the slice. -/
def fromV (a : Option Addr) (n cap k : Nat) : Value := .slice (if cap = k then a else a.map (fun x => x.add k)) (n - k) (cap - k)
theorem SlB.from_ {w : World} {a : Option Addr} {len cap : Nat} {xs : List (BitVec 8)} (h : SlB w (.slice a len cap) xs) (k : Nat) (hk : k ≤ len) : SlB w (fromV a len cap k) (xs.drop k) := by
  unfold fromV
  rcases h with ⟨⟨a', e⟩, rfl⟩ | ⟨b, off, c, e, h1, h2, h3, h4⟩
  · simp only [Value.slice.injEq] at e
    obtain ⟨rfl, rfl, rfl⟩ := e
    obtain rfl : k = 0 := by omega
    exact .inl ⟨⟨_, rfl⟩, by simp⟩
  · simp only [Value.slice.injEq] at e
    obtain ⟨rfl, rfl, rfl⟩ := e
    have hd := SlB.drop (.inr ⟨b, off, cap, rfl, h1, h2, h3, h4⟩) k hk
    by_cases hc : cap = k
    · rw [if_pos hc]
      rw [show xs.length - k = 0 by omega, show cap - k = 0 by omega, List.drop_of_length_le (by omega)]
      exact .inl ⟨⟨_, rfl⟩, rfl⟩
    · rw [if_neg hc]
      have ha : (⟨b, off, none⟩ : Addr).add k = ⟨b, off + k, none⟩ := by unfold Addr.add; split <;> simp_all
      simp only [Option.map_some, ha]
      exact hd
/-- make([]byte, n) of a constant n. -/
theorem made_bytes (n : Nat) (hn : n ≤ 1000000) (w : World) : (Instr.makeSlice 22 (.int .i64 (n : Int)) (.int .i64 (n : Int))).run Try.prog w = .ok (.slice (some ⟨w.heap.size, 0, none⟩) n n) (w.alloc (.cells (bytes (List.replicate n 0)) 5)) := by
  obtain ⟨i, hi, hz, hsz, hby⟩ := info_parts info_u8
  have hm := run_makeSlice (P := Try.prog) w 22 5 i (.int .u8 0) Try.underlying22 hi hz .i64 .i64 (n : Int) (n : Int) (by omega) (by omega) (by rw [hsz]; omega) (by rw [hby]; omega) (by omega)
  rw [hsz, Int.toNat_natCast, Nat.mul_one] at hm
  have hc : madeCells (Value.int .u8 0).cells n = bytes (List.replicate n 0) := by
    have e0 : (Value.int .u8 0).cells = #[.int .u8 0] := rfl
    apply Array.ext_getElem?
    intro j
    by_cases hj : j < n
    · rw [bytes_get? _ j (by simpa using hj)]
      simp [madeCells, e0, hj, bv, Nat.mod_one]
    · rw [Array.getElem?_eq_none (by rw [size_madeCells]; omega), Array.getElem?_eq_none (by rw [bytes_size]; simp; omega)]
  rw [hc] at hm
  exact hm
end Go.Proofs.Ytdnjjemdnlegdaa
namespace Go.Proofs.Ytdnjjemdnlegdaa
set_option linter.unusedVariables false
set_option linter.unusedSimpArgs false
open Go Go.RowKit
/-- The world with a constant text's bytes. -/
def konst (w : World) (xs : List (BitVec 8)) : World := markS (w.alloc (.cells (bytes xs) 5)) w.heap.size
theorem konst_size (w : World) (xs : List (BitVec 8)) : (konst w xs).heap.size = w.heap.size + 1 := by simp [konst, markS_size]
theorem konst_below (w : World) (xs : List (BitVec 8)) : Below w.heap.size w (konst w xs) := Below.markS ((Below.refl _ w).alloc (Nat.le_refl _) _) _ (Nat.le_refl _)
theorem konst_sl (w : World) (xs : List (BitVec 8)) (hl : xs.length ≤ 1000000) : SlB (konst w xs) (.slice (some ⟨w.heap.size, 0, none⟩) xs.length xs.length) xs :=
  .inr ⟨w.heap.size, 0, xs.length, rfl, Nat.le_refl _, by unfold maxLen; omega, by rw [konst_size]; omega, fun j hj => by
    unfold konst
    rw [markS_cell, cell_of_row _ _ _ _ _ _ (heap_alloc_new w _), Nat.zero_add, bytes_get? xs j hj]
    rfl⟩
theorem konst_conv (xs : List (BitVec 8)) (w : World) (n : Nat) : (convert 22 22 (.slice (some ⟨w.heap.size, 0, none⟩) n n)).run Try.prog (w.alloc (.cells (bytes xs) 5)) = .ok (.slice (some ⟨w.heap.size, 0, none⟩) n n) (konst w xs) :=
  run_convert_same (P := Try.prog) _ 22 5 _ 0 n n Try.underlying22 Try.underlying5 (by rw [shape?_at _ _ _ _ rfl]; rfl)
theorem bv_ofNat' (k : Nat) : bv (BitVec.ofNat 8 k) = (k : Int) % 256 := by
  unfold bv
  rw [BitVec.toNat_ofNat]
  omega
theorem one_byte {E : TypeId} (w : World) (n : Int) (x : BitVec 8) (h : n = bv x) : SlB (w.alloc (.cells #[.int .u8 n] E)) (.slice (some ⟨w.heap.size, 0, none⟩) 1 1) [x] := by
  subst h
  exact SlB.block (heapA_new w _ _ rfl) 0 1 [x] (by simp) (by decide) (fun j hj => by
    have : j = 0 := by simp at hj; omega
    subst this
    rfl)
end Go.Proofs.Ytdnjjemdnlegdaa
namespace Go.Proofs.Ytdnjjemdnlegdaa
set_option linter.unusedVariables false
set_option linter.unusedSimpArgs false
open Go Go.RowKit
namespace Slo
open Dk
theorem append_short {d : D} {l : L} {t : List (BitVec 8)} (h : ∀ x ∈ l.texts, x.length ≤ 262144) : ∀ x ∈ (append d l t).2.1.texts, x.length ≤ 262144 := by
  unfold append
  split
  · exact h
  · rename_i h1
    split
    · exact h
    · rename_i h2
      split
      · exact h
      · split
        · exact h
        · split
          · exact h
          · intro x hx
            simp only [List.mem_append, List.mem_singleton] at hx
            rcases hx with hx | rfl
            · exact h x hx
            · omega
theorem open_short {d : D} {fr n : Int} {l : L} {c : Int} (h : open_ d fr n = (some l, c)) : ∀ x ∈ l.texts, x.length ≤ 262144 := by
  unfold open_ at h
  split at h
  · cases h
  · rename_i hb
    split at h
    · cases h
    · split at h
      · rename_i hp
        have e : l = ⟨fr.toNat, n.toNat, (parse n.toNat (region d fr.toNat n.toNat)).1, used (parse n.toNat (region d fr.toNat n.toNat)).1, false⟩ := by
          have := congrArg Prod.fst h
          simpa [eq_comm] using this
        rw [e]
        exact (parse_end n.toNat _ _ (by simp [region]; omega) (Prod.ext rfl hp)).2.2
      · cases h
theorem open_fresh (n : Nat) (h0 : 1 ≤ n) : open_ (fresh n) 0 (n : Int) = (some ⟨0, n, [], 0, false⟩, 0) := by
  have hb : (fresh n).b.length = n * 128 := by simp [fresh]
  have hs : slot (region (fresh n) 0 n) = .no := by
    unfold slot
    rw [if_pos]
    rw [region_getD _ _ _ _ (by omega)]
    simp only [fresh, List.getD]
    rw [List.getElem?_replicate]
    split <;> rfl
  unfold open_
  rw [hb, if_neg (by omega), if_neg (by simp [fresh])]
  simp only [Int.toNat_natCast, Int.toNat_zero]
  rw [parse_no _ _ hs]
  simp [used]
end Slo

/-- What lies in the blocks F stays. -/
def Fr (F : Nat → Prop) (w w' : World) : Prop := ∃ K : List Nat, Kept K w w' ∧ ∀ k, k ∈ K → ¬ F k
theorem Fr.refl (F : Nat → Prop) (w : World) : Fr F w w := ⟨[], Kept.refl _ _, fun k h => absurd h (by simp)⟩
theorem Fr.trans {F : Nat → Prop} {a b c : World} (h : Fr F a b) (k : Fr F b c) : Fr F a c := by
  obtain ⟨K, h1, h2⟩ := h
  obtain ⟨L, k1, k2⟩ := k
  exact ⟨K ++ L, (h1.mono (by simp +contextual)).trans (k1.mono (by simp +contextual)), fun i hi => by
    rcases List.mem_append.1 hi with h3 | h3
    · exact h2 i h3
    · exact k2 i h3⟩
theorem Fr.ofBelow {F : Nat → Prop} {w w' : World} (h : Below w.heap.size w w') : Fr F w w' := ⟨[], Kept.ofBelow h (Nat.le_refl _), fun k h => absurd h (by simp)⟩
theorem Fr.size {F : Nat → Prop} {w w' : World} (h : Fr F w w') : w.heap.size ≤ w'.heap.size := by
  obtain ⟨K, h1, h2⟩ := h
  exact h1.size
theorem Fr.block {F : Nat → Prop} {w w' : World} (h : Fr F w w') (k : Nat) (hk : k < w.heap.size) (hF : F k) : w'.heap[k]? = w.heap[k]? := by
  obtain ⟨K, h1, h2⟩ := h
  exact h1.block k hk fun hm => h2 k hm hF
theorem Fr.toBelow {F : Nat → Prop} {w w' : World} {B : Nat} (h : Fr F w w') (hF : ∀ k, k < B → F k) (hB : B ≤ w.heap.size) : Below B w w' := by
  obtain ⟨K, h1, h2⟩ := h
  exact h1.toBelow (fun k hm => Nat.le_of_not_lt fun hlt => h2 k hm (hF k hlt)) hB
theorem Fr.mono {F F' : Nat → Prop} {w w' : World} (h : Fr F w w') (hF : ∀ k, F' k → F k) : Fr F' w w' := by
  obtain ⟨K, h1, h2⟩ := h
  exact ⟨K, h1, fun k hk hf => h2 k hk (hF k hf)⟩
theorem Tx.blk {w : World} {vt : Value} {ts : List (List (BitVec 8))} {vs : List Value} {l : List Nat} (h : Tx w vt ts vs l) (i k : Nat) (e : (vs.getD i undef).ownBlock = some k) : k < w.heap.size := by
  by_cases hi : i < ts.length
  · exact (h.apart i hi k e).2.2
  · have hn : vs.getD i undef = undef := by
      simp only [List.getD]
      rw [List.getElem?_eq_none (by have := h.len; omega)]
      rfl
    rw [hn] at e
    cases e
/-- A disk and a log on it, that lie in none of the blocks F. -/
def DL (F : Nat → Prop) (w : World) (p g q : Nat) (d : Dk.D) (l : Slo.L) : Prop :=
  ∃ vt vs, DiskAt w p g d ∧ LogAt w q p g vt vs l ∧ (¬ F p ∧ ¬ F g ∧ ¬ F q) ∧ (∀ k, vt.ownBlock = some k → ¬ F k) ∧ (∀ x ∈ l.texts, x.length ≤ 262144) ∧ ∀ i k, (vs.getD i undef).ownBlock = some k → ¬ F k
section
variable {F : Nat → Prop} {w w' : World} {p g q : Nat} {d : Dk.D} {l : Slo.L}
theorem DL.below (h : DL F w p g q d l) (hb : Below w.heap.size w w') : DL F w' p g q d l := by
  obtain ⟨vt, vs, h1, h2, h3, h4, h5, h6⟩ := h
  exact ⟨vt, vs, h1.below hb (Nat.le_refl _), h2.below hb (Nat.le_refl _), h3, h4, h5, h6⟩
theorem DL.lt (h : DL F w p g q d l) : p < w.heap.size ∧ g < w.heap.size ∧ q < w.heap.size := by
  obtain ⟨vt, vs, h1, h2, h3, h4, h5, h6⟩ := h
  exact ⟨h1.ltp, h1.ltg, h2.lt⟩
theorem DL.ge (h : DL F w p g q d l) : ¬ F p ∧ ¬ F g ∧ ¬ F q := by
  obtain ⟨vt, vs, h1, h2, h3, h4, h5, h6⟩ := h
  exact h3
theorem DL.disk (h : DL F w p g q d l) : DiskAt w p g d := by
  obtain ⟨vt, vs, h1, h2, h3, h4, h5, h6⟩ := h
  exact h1
theorem DL.short (h : DL F w p g q d l) : ∀ x ∈ l.texts, x.length ≤ 262144 := by
  obtain ⟨vt, vs, h1, h2, h3, h4, h5, h6⟩ := h
  exact h5
theorem DL.small (h : DL F w p g q d l) : l.from_ ≤ 16384 ∧ l.sectors ≤ 16384 ∧ l.used ≤ l.sectors ∧ l.texts.length ≤ l.used := by
  obtain ⟨vt, vs, h1, h2, h3, h4, h5, h6⟩ := h
  exact h2.small
theorem DL.keptD {d' : Dk.D} (h : DL F w p g q d l) (hk : Kept [p, g] w w') (hd : DiskAt w' p g d') : DL F w' p g q d' l := by
  obtain ⟨vt, vs, h1, h2, h3, h4, h5, h6⟩ := h
  exact ⟨vt, vs, hd, h2.keptD hk, h3, h4, h5, h6⟩
theorem DL.frD (h : DL F w p g q d l) (hk : Kept [p, g] w w') : Fr F w w' := ⟨[p, g], hk, fun k hm => by
  simp only [List.mem_cons, List.not_mem_nil, or_false] at hm
  rcases hm with rfl | rfl
  · exact h.ge.1
  · exact h.ge.2.1⟩
/-- Other blocks are the others': all that are new to it lie apart. -/
theorem DL.others {F' : Nat → Prop} (h : DL F w p g q d l) (hF : ∀ k, k < w.heap.size → F' k → F k) : DL F' w p g q d l := by
  obtain ⟨vt, vs, h1, h2, h3, h4, h5, h6⟩ := h
  exact ⟨vt, vs, h1, h2, ⟨fun h => h3.1 (hF _ h1.ltp h), fun h => h3.2.1 (hF _ h1.ltg h), fun h => h3.2.2 (hF _ h2.lt h)⟩, fun k e h => h4 k e (hF k (World.ownsRow.lt h2.tx.own k e).2 h), h5, fun i k e h => h6 i k e (hF k (h2.tx.blk i k e) h)⟩
/-- Whoever touches none of its blocks. -/
theorem DL.kept {K : List Nat} (h : DL F w p g q d l) (hk : Kept K w w') (hK : ∀ k, k ∈ K → F k) : DL F w' p g q d l := by
  obtain ⟨vt, vs, h1, h2, h3, h4, h5, h6⟩ := h
  exact ⟨vt, vs, h1.kept hk (fun hm => h3.1 (hK _ hm)) (fun hm => h3.2.1 (hK _ hm)), ⟨(hk.block q h2.lt (fun hm => h3.2.2 (hK _ hm))).trans h2.row, h2.ne,
    ⟨h2.tx.own.kept hk fun k e hm => h4 k e (hK k hm), h2.tx.len, fun i hi => (h2.tx.txt i hi).keptV hk fun k e hm => h6 i k e (hK k hm), fun i hi k e => ⟨(h2.tx.apart i hi k e).1, (h2.tx.apart i hi k e).2.1, Nat.lt_of_lt_of_le (h2.tx.apart i hi k e).2.2 hk.size⟩, h2.tx.out⟩, h2.small⟩, h3, h4, h5, h6⟩
theorem DL.append (h : DL F w p g q d l) (hF : ∀ k, F k → k < w.heap.size) (v : Value) (t : List (BitVec 8)) (hs : SlB w v t) (hap : Apart v t [p, g, q]) :
    Calls Try.prog 30 #[.pointer (some ⟨q, 0, none⟩), v] w fun e w' => e = .returned (.int .i64 (Slo.append d l t).2.2) ∧ DL F w' p g q (Slo.append d l t).1 (Slo.append d l t).2.1 ∧ Fr F w w' := by
  obtain ⟨vt, vs, h1, h2, h3, h4, h5, h6⟩ := h
  refine (slo_append h2 h1 v t hs hap).mono ?_
  rintro e w' ⟨rfl, hD, ⟨vt', vs', hL, hv, ho⟩, hK⟩
  refine ⟨rfl, ⟨vt', vs', hD, hL, h3, fun k e => ?_, Slo.append_short h5, fun i k e => ?_⟩, _, hK, fun k hm => ?_⟩
  · rcases hv k e with h7 | h7
    · exact h4 k h7
    · exact fun h => by have := hF k h; omega
  · rcases ho i k e with ⟨j, h7⟩ | h7
    · exact h6 j k h7
    · exact fun h => by have := hF k h; omega
  · simp only [List.mem_append, List.mem_cons, List.not_mem_nil, or_false, Option.mem_toList] at hm
    rcases hm with (rfl | rfl | rfl) | hm
    · exact h3.1
    · exact h3.2.1
    · exact h3.2.2
    · exact h4 k hm
theorem DL.all (h : DL F w p g q d l) : Calls Try.prog 32 #[.pointer (some ⟨q, 0, none⟩)] w (AllR w p g q l.texts) := by
  obtain ⟨vt, vs, h1, h2, h3, h4, h5, h6⟩ := h
  exact slo_all h2 h1.ltp h1.ltg h5
theorem DL.room (h : DL F w p g q d l) : Calls Try.prog 39 #[.pointer (some ⟨q, 0, none⟩)] w fun e w' => e = .returned (.int .i64 (Slo.room l)) ∧ ∃ n, w' = w.drewN n := by
  obtain ⟨vt, vs, h1, h2, h3, h4, h5, h6⟩ := h
  exact slo_room h2
theorem DL.used (h : DL F w p g q d l) : Calls Try.prog 34 #[.pointer (some ⟨q, 0, none⟩)] w fun e w' => e = .returned (.int .i64 (l.used : Nat)) ∧ w = w' := by
  obtain ⟨vt, vs, h1, h2, h3, h4, h5, h6⟩ := h
  exact slo_used h2
end
/-- Open, on a disk that lies in none of the blocks F. -/
theorem open_dl {F : Nat → Prop} {w : World} {p g : Nat} {d : Dk.D} (hD : DiskAt w p g d) (hF : ∀ k, F k → k < w.heap.size) (hp : ¬ F p ∧ ¬ F g) (fr n : Int) (h0 : -9223372036854775808 ≤ n) (h1 : n ≤ 9223372036854775807) :
    Calls Try.prog 31 #[.pointer (some ⟨p, 0, none⟩), .int .i64 fr, .int .i64 n] w fun e w' => Below w.heap.size w w' ∧
      ((∃ c, Slo.open_ d fr n = (none, c) ∧ e = .returned (.tuple #[.pointer none, .int .i64 c])) ∨ (∃ l q, Slo.open_ d fr n = (some l, 0) ∧ e = .returned (.tuple #[.pointer (some ⟨q, 0, none⟩), .int .i64 0]) ∧ DL F w' p g q d l)) := by
  refine (slo_open hD fr n h0 h1).mono ?_
  rintro e w' ⟨hb, h⟩
  refine ⟨hb, ?_⟩
  obtain ⟨⟨o, c⟩, hr⟩ : ∃ r, Slo.open_ d fr n = r := ⟨_, rfl⟩
  rw [hr] at h
  cases o with
  | none => exact .inl ⟨c, hr, h⟩
  | some l =>
    obtain ⟨hc, q, vt, vs, rfl, hL, hq, hv, hx⟩ := h
    simp only at hc
    subst hc
    exact .inr ⟨l, q, hr, rfl, vt, vs, hD.below hb (Nat.le_refl _), hL, ⟨hp.1, hp.2, fun h => by have := hF q h; omega⟩, fun k e h => by have := hv k e; have := hF k h; omega, Slo.open_short hr, fun i k e h => by have := hx i k e; have := hF k h; omega⟩

set_option maxRecDepth 100000 in
theorem given_any (n : Nat) (h0 : 1 ≤ n) (h1 : n ≤ 16384) (w : World) : Calls Try.prog 29 #[.int .i64 (n : Int)] w fun e w' =>
    ∃ p g q, e = .returned (.tuple #[.pointer (some ⟨p, 0, none⟩), .pointer (some ⟨q, 0, none⟩)]) ∧ DL (fun k => k < w.heap.size) w' p g q (Dk.fresh n) ⟨0, n, [], 0, false⟩ ∧ Below w.heap.size w w' := by
  have HN := Lib.hid (fun w => dk_new n h0 h1 w)
  have HO := Lib.hid (fun (W : World) (p g : Nat) (hD : DiskAt W p g (Dk.fresh n)) (hB : w.heap.size ≤ W.heap.size) (hp : w.heap.size ≤ p ∧ w.heap.size ≤ g) => (open_dl (F := fun k => k < w.heap.size) hD (fun k h => Nat.lt_of_lt_of_le h hB) ⟨Nat.not_lt.2 hp.1, Nat.not_lt.2 hp.2⟩ 0 (n : Int) (by omega) (by omega)).mono (R' := fun e w' => ∃ q, e = .returned (.tuple #[.pointer (some ⟨q, 0, none⟩), .int .i64 0]) ∧ DL (fun k => k < w.heap.size) w' p g q (Dk.fresh n) ⟨0, n, [], 0, false⟩ ∧ Below W.heap.size W w') (by
    rintro e w' ⟨hb, ⟨c, h, _⟩ | ⟨l, q, h, rfl, hd⟩⟩
    · rw [Slo.open_fresh n h0] at h; cases h
    · rw [Slo.open_fresh n h0] at h
      obtain rfl : (⟨0, n, [], 0, false⟩ : Slo.L) = l := by have := congrArg Prod.fst h; simpa using this
      exact ⟨q, rfl, hd, hb⟩))
  go_enter Try.func29, Try.ntmps29
  go_wp2_with (first
    | (go_at_call 14; refine (HN.out w).mono ?_; rintro e w1 ⟨p, g, rfl, hD1, hp1, hg1, hb1⟩; have HD1 := Lib.hid hD1; have HB1 := Lib.hid (And.intro hp1 (And.intro hg1 hb1)); clear hD1 hp1 hg1 hb1)
    | (go_at_call 31; refine (HO.out w1 p g HD1.out HB1.out.2.2.size ⟨HB1.out.1, HB1.out.2.1⟩).mono ?_; rintro e w2 ⟨q, rfl, hd, hb2⟩; have HDL := Lib.hid hd; have HB2 := Lib.hid hb2; clear hd hb2))
  go_ret2
  exact ⟨p, g, q, rfl, HDL.out, HB1.out.2.2.trans (HB2.out.mono HB1.out.2.2.size)⟩

theorem aw_facts : (Slo.append (Dk.fresh 3) ⟨0, 3, [], 0, false⟩ [97, 98]).2.2 = 0 ∧ (Slo.append (Dk.fresh 3) ⟨0, 3, [], 0, false⟩ [97, 98]).1.b.length = 384 ∧ (Slo.append (Dk.fresh 3) ⟨0, 3, [], 0, false⟩ [97, 98]).1.b.take 8 = [1, 0, 0, 0, 2, 97, 98, 0] ∧
    Slo.room (Slo.append (Dk.fresh 3) ⟨0, 3, [], 0, false⟩ [97, 98]).2.1 = 251 ∧ (Slo.append (Dk.fresh 3) ⟨0, 3, [], 0, false⟩ [97, 98]).2.1.used = 1 := by
  decide +kernel

set_option maxRecDepth 100000 in
theorem awake9_any (w : World) : Calls Try.prog 28 #[] w fun e w' => e = .returned (.bool true) ∧ Below w.heap.size w w' := by
  have HG := Lib.hid (fun w => given_any 3 (by omega) (by omega) w)
  obtain ⟨f1, f2, f3, f4, f5⟩ := aw_facts
  have HA := Lib.hid (fun (F : Nat → Prop) (W : World) (p g q : Nat) (h : DL F W p g q (Dk.fresh 3) ⟨0, 3, [], 0, false⟩) (hF : ∀ k, F k → k < W.heap.size) => h.append hF)
  obtain ⟨⟨d1, l1, e1⟩, hr⟩ : ∃ r, Slo.append (Dk.fresh 3) ⟨0, 3, [], 0, false⟩ [97, 98] = r := ⟨_, rfl⟩
  have HR := Lib.hid hr
  rw [hr] at f1 f2 f3 f4 f5
  simp only at f1 f2 f3 f4 f5
  have HF := Lib.hid (And.intro f1 (And.intro f2 (And.intro f3 (And.intro f4 f5))))
  clear f1 f2 f3 f4 f5 hr
  go_enter Try.func28, Try.ntmps28
  go_wp2_with (first
    | (go_at_call 29; refine (HG.out w).mono ?_; rintro e w1 ⟨p, g, q, rfl, hd, hb⟩; have HD := Lib.hid hd; have HB := Lib.hid hb; clear hd hb; have hkc := konst_conv [97, 98] w1 2; rw [show bytes [97, 98] = #[.int .u8 97, .int .u8 98] from by kernel_rfl] at hkc)
    | (go_at_call 30; refine (HA.out (fun k => k < w.heap.size) (konst w1 [97, 98]) p g q (HD.out.below (konst_below _ _)) (fun k h => by have := HB.out.size; rw [konst_size]; omega) _ [97, 98] (konst_sl w1 [97, 98] (by decide)) (by intro _ k hk; simp only [Value.ownBlock, Option.some.injEq] at hk; have := HD.out.lt; simp; omega)).mono ?_; rw [HR.out]; simp only [HF.out.1]; rintro e w2 ⟨rfl, hd, hb⟩; have HD2 := Lib.hid hd; have HB2 := Lib.hid (HB.out.trans (((konst_below w1 [97, 98]).mono HB.out.size).trans (hb.toBelow (fun k h => h) (by have := HB.out.size; rw [konst_size]; omega)))); clear hd hb hkc)
    | (go_at_call 17; refine (dk_bytes HD2.out.disk).mono ?_; rintro e w3 ⟨v3, rfl, ho, hb⟩; obtain ⟨g3, c3, rfl, hg3, hl3, hc3, hs3⟩ := ho.form 384 HF.out.2.1 (by omega); have h8 := conv_any (hs3.take 8 (by omega)); rw [HF.out.2.2.1, show strB [1, 0, 0, 0, 2, 97, 98, 0] = ⟨#[1, 0, 0, 0, 2, 97, 98, 0]⟩ from by kernel_rfl] at h8; have HD3 := Lib.hid (HD2.out.below hb); have HB3 := Lib.hid (HB2.out.trans (hb.mono HB2.out.size)); clear ho hb hs3)
    | (go_at_call 39; refine HD3.out.room.mono ?_; rw [HF.out.2.2.2.1]; rintro e w4 ⟨rfl, m, rfl⟩)
    | (go_at_call 34; refine (HD3.out.below (Below.drewN (Below.refl _ _) m)).used.mono ?_; rw [HF.out.2.2.2.2]; rintro e w5 ⟨rfl, rfl⟩))
  go_ret
  exact ⟨rfl, Below.drewN HB3.out m⟩
end Go.Proofs.Ytdnjjemdnlegdaa
namespace Go.Proofs.Ytdnjjemdnlegdaa
set_option linter.unusedVariables false
set_option linter.unusedSimpArgs false
open Go Go.RowKit Go.WideShapes Go.ChangeShapes

/-- The slice value v reads as a slice of slices of bytes. -/
def SlS (w : World) (v : Value) (xs : List (List (BitVec 8))) : Prop :=
  ∃ a cap, v = .slice a xs.length cap ∧ xs.length ≤ cap ∧ cap ≤ maxLen ∧
    ∀ j, j < xs.length → ∃ b off u, a = some ⟨b, off, none⟩ ∧ b < w.heap.size ∧ w.cell? ⟨b, off + j, none⟩ = some u ∧ SlB w u (xs.getD j [])
theorem SlS.below {B : Nat} {w w' : World} {v : Value} {xs : List (List (BitVec 8))} (h : SlS w v xs) (hb : Below B w w') (hB : w.heap.size ≤ B) : SlS w' v xs := by
  obtain ⟨a, cap, rfl, h1, h2, h3⟩ := h
  refine ⟨a, cap, rfl, h1, h2, fun j hj => ?_⟩
  obtain ⟨b, off, u, rfl, hb', hc, hs⟩ := h3 j hj
  exact ⟨b, off, u, rfl, by have := hb.size; omega, (hb.cell (p := ⟨b, off + j, none⟩) (by show b < B; omega)).trans hc, hs.below hb hB⟩
theorem list_of_ex {α : Type} (d : α) (P : Nat → α → Prop) : ∀ n, (∀ i, i < n → ∃ x, P i x) → ∃ xs : List α, xs.length = n ∧ ∀ i, i < n → P i (xs.getD i d)
  | 0, _ => ⟨[], rfl, fun i hi => absurd hi (by omega)⟩
  | n + 1, h => by
    obtain ⟨xs, hl, hx⟩ := list_of_ex d P n (fun i hi => h i (by omega))
    obtain ⟨x, hp⟩ := h n (by omega)
    refine ⟨xs ++ [x], by simp [hl], fun i hi => ?_⟩
    by_cases e : i = n
    · subst e
      have : (xs ++ [x]).getD i d = x := by simp [List.getD, List.getElem?_append_right (Nat.le_of_eq hl), hl]
      rw [this]; exact hp
    · have : (xs ++ [x]).getD i d = xs.getD i d := by simp only [List.getD]; rw [List.getElem?_append_left (by omega)]
      rw [this]; exact hx i (by omega)
set_option maxRecDepth 100000 in
theorem open_slices {H : Type} {enc : TypeId × Value → H} {W : World} {r : Reach} {base : Nat} {v : Value} {d : DataW H} {ps : List MemPlace} (hv : Value.okWide Try.prog W r base 47 v) (h : DataW.Trod enc Try.prog W 0 (fun _ => true) true 47 v d ps) : ∃ xs, SlS W v xs := by
  obtain ⟨a, l, c, rfl⟩ := slice_form Try.underlying47 hv
  obtain ⟨m, hm⟩ := h
  obtain ⟨a', len, cap, e, h1, h2, h3⟩ := tr_slice (sz := 1) Try.underlying47 (by kernel_rfl) (by omega) hm
  have e : Value.slice a l c = .slice a' len cap := by simpa [Value.cells] using e
  simp only [Value.slice.injEq] at e
  obtain ⟨rfl, rfl, rfl⟩ := e
  have hq : ∀ i, i < l → ∃ xs, ∃ b off u, a = some ⟨b, off, none⟩ ∧ b < W.heap.size ∧ W.cell? ⟨b, off + i, none⟩ = some u ∧ SlB W u xs := fun i hi => by
    obtain ⟨b, off, ha, hb, hx⟩ := h3 (by omega)
    obtain ⟨cs, hl, hc, n, y, ht⟩ := hx i hi
    obtain ⟨u, xs, rfl, hs⟩ := tr_sl Try.underlying22 Try.underlying5 (by kernel_rfl) ht
    exact ⟨xs, b, off, u, ha, hb, by simpa using hc 0 u rfl, hs⟩
  obtain ⟨xs, hl, hx⟩ := list_of_ex ([] : List (BitVec 8)) _ l hq
  subst hl
  exact ⟨xs, a, c, rfl, h1, h2, hx⟩
end Go.Proofs.Ytdnjjemdnlegdaa
namespace Go.Proofs.Ytdnjjemdnlegdaa
set_option linter.unusedVariables false
set_option linter.unusedSimpArgs false
open Go Go.RowKit

theorem Tx.sls {w : World} {v : Value} {ts : List (List (BitVec 8))} {vs : List Value} {l : List Nat} (h : Tx w v ts vs l) : SlS w v ts := by
  have hl := h.len
  rcases h.own.sl with ⟨rfl, hvs⟩ | ⟨b, off, cap, rfl, h1, h2, h3, h4⟩
  · have h0 : ts = [] := List.eq_nil_of_length_eq_zero (by rw [← hl, hvs]; rfl)
    subst h0
    exact ⟨none, 0, rfl, Nat.le_refl _, by unfold maxLen; omega, fun j hj => absurd hj (Nat.not_lt_zero _)⟩
  · rw [hl] at h1 h4 ⊢
    refine ⟨some ⟨b, off, none⟩, cap, rfl, h1, h2, fun j hj => ⟨b, off, vs.getD j undef, rfl, h3, ?_, h.txt j hj⟩⟩
    have := h4 j hj
    simpa [List.getD] using this
theorem beq_str9 (a b : List (BitVec 8)) : ((strB a).toList == (strB b).toList) = decide (a = b) := by
  by_cases h : a = b
  · subst h
    simp
  · rw [decide_eq_false h, beq_eq_false_iff_ne]
    exact fun e => h (strB_inj (by rw [ByteArray.toList_eq, ByteArray.toList_eq] at e; exact ByteArray.ext (Array.toList_inj.1 e)))
theorem take_ne {α : Type} {xs ys : List α} (hl : xs.length = ys.length) (h : xs.take xs.length = ys.take xs.length) : xs = ys := by
  rw [List.take_length] at h
  rw [h, hl, List.take_length]
theorem take_next {α : Type} {d : α} {xs ys : List α} {i : Nat} (h1 : i < xs.length) (h2 : i < ys.length) (h : xs.take i = ys.take i) (he : xs.getD i d = ys.getD i d) : xs.take (i + 1) = ys.take (i + 1) := by
  rw [List.take_succ_eq_append_getElem h1, List.take_succ_eq_append_getElem h2, h]
  congr 2
  simpa [List.getD, List.getElem?_eq_getElem h1, List.getElem?_eq_getElem h2] using he
theorem ne_of_getD {α : Type} {d : α} {xs ys : List α} {i : Nat} (h : xs.getD i d ≠ ys.getD i d) : xs ≠ ys := fun e => h (by rw [e])

set_option maxRecDepth 100000 in
set_option maxHeartbeats 2000000 in
theorem same9_any (xs ys : List (List (BitVec 8))) (u v : Value) (w : World) (hu : SlS w u xs) (hv : SlS w v ys) (hx : xs.length ≤ 1000000) (hy : ys.length ≤ 1000000) :
    Calls Try.prog 33 #[u, v] w fun e w' => e = .returned (.bool (decide (xs = ys))) ∧ Below w.heap.size w w' := by
  obtain ⟨a, ca, rfl, ha1, ha2, ha3⟩ := hu
  obtain ⟨b, cb, rfl, hb1, hb2, hb3⟩ := hv
  obtain ⟨n, hn⟩ : ∃ n, xs.length = n := ⟨_, rfl⟩
  obtain ⟨m, hm⟩ : ∃ m, ys.length = m := ⟨_, rfl⟩
  have HA := Lib.hid ha3
  have HB := Lib.hid hb3
  have HN := Lib.hid (And.intro hn hm)
  rw [hn] at HA hx ha1 ⊢
  rw [hm] at HB hy hb1 ⊢
  clear ha3 hb3 hn hm
  by_cases hnm : n = m
  · subst hnm
    go_enter Try.func33, Try.ntmps33
    go_wp2
    go_loopw [5] (fun s wr => ∃ k : Nat, k ≤ n ∧ s = .int .i64 k ∧ Hid (xs.take k = ys.take k) ∧ Hid (Below w.heap.size w wr)) (fun s _ => n - (intOf s).toNat)
    case atStart => exact ⟨0, by omega, rfl, Lib.hid rfl, Lib.hid (Below.refl _ _)⟩
    case round =>
      obtain ⟨k, hk, rfl, HT, HW⟩ := hrel
      by_cases hlt : k < n
      · obtain ⟨g1, o1, v1, rfl, l1, cc1, s1⟩ := HA.out k hlt
        obtain ⟨g2, o2, v2, rfl, l2, cc2, s2⟩ := HB.out k hlt
        have d1 := (HW.out.cell (p := ⟨g1, o1 + k, none⟩) l1).trans cc1
        have d2 := (HW.out.cell (p := ⟨g2, o2 + k, none⟩) l2).trans cc2
        have k1 := fun W (hW : Below w.heap.size w W) => conv_any (s1.below hW (Nat.le_refl _))
        have k2 := fun W (hW : Below w.heap.size w W) => conv_any (s2.below hW (Nat.le_refl _))
        obtain ⟨a1, p1, e1⟩ := s1.len
        obtain ⟨a2, p2, e2⟩ := s2.len
        subst e1
        subst e2
        have kc1 := k1 wr.drew HW.out.drew
        have kc2 := k2 wr.drew HW.out.drew
        obtain ⟨x, hx'⟩ : ∃ x, xs.getD k [] = x := ⟨_, rfl⟩
        obtain ⟨y, hy'⟩ : ∃ y, ys.getD k [] = y := ⟨_, rfl⟩
        rw [hx'] at kc1 d1
        rw [hy'] at kc2 d2
        have HXY := Lib.hid (And.intro hx' hy')
        clear k1 k2 s1 s2 cc1 cc2 hx' hy' HA HB
        by_cases he : x = y
        · subst he
          go_wp2
          go_region
          all_goals
            go_wp2
            refine ⟨⟨k + 1, by omega, by go_num, ?_, Lib.hid HW.out.drew⟩, by simp [intOf]; omega⟩
            exact Lib.hid (take_next (d := []) (by have := HN.out; omega) (by have := HN.out; omega) HT.out (by rw [HXY.out.1, HXY.out.2]))
        · have hsne : ((strB x).toList == (strB y).toList) = false := by rw [beq_str9, decide_eq_false he]
          have HNE := Lib.hid (show xs ≠ ys from ne_of_getD (d := []) (i := k) (by rw [HXY.out.1, HXY.out.2]; exact he))
          go_wp2
          go_region
          all_goals
            go_wp2
            go_ret
            exact ⟨by rw [decide_eq_false HNE.out]; rfl, HW.out.drew⟩
      · obtain rfl : k = n := by omega
        have HE := Lib.hid (show xs = ys from take_ne (by have := HN.out; omega) (by rw [HN.out.1]; exact HT.out))
        go_wp2
        go_ret
        exact ⟨by rw [decide_eq_true HE.out]; rfl, HW.out⟩
  · have HNE := Lib.hid (show xs ≠ ys from fun e => hnm (by have := HN.out; rw [← this.1, ← this.2, e]))
    have h1 : ¬ (n : Int) = m := by omega
    go_enter Try.func33, Try.ntmps33
    go_wp2
    go_ret
    exact ⟨by rw [decide_eq_false HNE.out]; rfl, Below.refl _ _⟩
end Go.Proofs.Ytdnjjemdnlegdaa
namespace Go.Proofs.Ytdnjjemdnlegdaa.Slo
set_option linter.unusedVariables false
set_option linter.unusedSimpArgs false
open Go Dk

theorem append_len {d : D} (h : Ok d) (l : L) (t : List (BitVec 8)) : (append d l t).1.b.length = d.b.length := by
  have h1 := write_ok h ((l.from_ + l.used : Nat) : Int) (whole l t)
  have h2 := write_ok h1.1 ((l.from_ + l.used : Nat) : Int) ((laid 1 t).take 128)
  unfold append
  split
  · rfl
  · split
    · rfl
    · split
      · rfl
      · split
        · exact h1.2
        · split
          · exact h2.2.trans h1.2
          · exact h2.2.trans h1.2
/-- A log on a disk that holds what it should, behind k appends. -/
structure Good (d : D) (l : L) (want : List (List (BitVec 8))) (k : Nat) : Prop where
  is : Is d l
  left : -1 ≤ d.left
  off : d.off = false
  dead : l.dead = false
  fr : l.from_ = 0
  sec : l.sectors = 120
  txt : l.texts = want
  cap : l.used ≤ 5 * k
theorem open_ok {d : D} {ts : List (List (BitVec 8))} (hb : 15360 ≤ d.b.length) (hoff : d.off = false) (hp : parse 120 (region d 0 120) = (ts, true)) : open_ d 0 120 = (some ⟨0, 120, ts, used ts, false⟩, 0) ∧ Is d ⟨0, 120, ts, used ts, false⟩ := by
  constructor
  · unfold open_
    rw [if_neg (by omega), if_neg (by rw [hoff]; simp)]
    simp only [show (120 : Int).toNat = 120 from rfl, show (0 : Int).toNat = 0 from rfl, hp, if_true]
  · exact ⟨by show 128 * (0 + 120) ≤ d.b.length; omega, rfl, hp⟩
theorem Good.cut {d : D} {l : L} {want : List (List (BitVec 8))} {k : Nat} (h : Good d l want k) (whole : Int) (hw : 0 ≤ whole) (mask : List (BitVec 8)) : Good (Dk.cut d whole mask).1 l want k := by
  unfold Dk.cut
  rw [if_neg (by omega), if_neg (by rw [h.off]; simp)]
  exact ⟨⟨h.is.fit, h.is.used_eq, h.is.parse_eq⟩, by show -1 ≤ whole; omega, h.off, h.dead, h.fr, h.sec, h.txt, h.cap⟩
theorem Good.append {d : D} {l : L} {want : List (List (BitVec 8))} {k : Nat} (h : Good d l want k) (hok : Ok d) (hk : k < 20) (t : List (BitVec 8)) (ht : t.length ≤ 600) (hl : -1 ≤ (Slo.append d l t).1.left) :
    ((Slo.append d l t).2.2 = 0 ∧ Good (Slo.append d l t).1 (Slo.append d l t).2.1 (want ++ [t]) (k + 1)) ∨
    ((Slo.append d l t).2.2 = 12 ∧ ∃ l', open_ (restart (Slo.append d l t).1) 0 120 = (some l', 0) ∧ (Good (restart (Slo.append d l t).1) l' want (k + 1) ∨ Good (restart (Slo.append d l t).1) l' (want ++ [t]) (k + 1))) := by
  have hc := h.cap
  have htk := taken_le t.length
  have hse := h.sec
  have hfr := h.fr
  have hlen := append_len hok l t
  have hfit := h.is.fit
  rcases append_spec h.is h.left t h.dead h.off (by omega) (by omega) with ⟨e0, hi, el, eo⟩ | ⟨e12, eo, el, elf, hp⟩
  · refine .inl ⟨e0, hi, hl, eo, ?_, ?_, ?_, ?_, ?_⟩
    · rw [el]; exact h.dead
    · rw [el]; exact h.fr
    · rw [el]; exact h.sec
    · rw [el, ← h.txt]
    · rw [el]
      show l.used + taken t.length ≤ 5 * (k + 1)
      omega
  · rw [hse, hfr] at hp
    have hb : 15360 ≤ (restart (Slo.append d l t).1).b.length := by show 15360 ≤ (Slo.append d l t).1.b.length; omega
    have hu : used l.texts ≤ 5 * k := by rw [← h.is.used_eq]; exact hc
    refine .inr ⟨e12, ?_⟩
    rcases hp with hp | hp
    · obtain ⟨o1, o2⟩ := open_ok hb rfl hp
      exact ⟨_, o1, .inl ⟨o2, by simp [restart], rfl, rfl, rfl, rfl, h.txt, by show used l.texts ≤ 5 * (k + 1); omega⟩⟩
    · obtain ⟨o1, o2⟩ := open_ok hb rfl hp
      refine ⟨_, o1, .inr ⟨o2, by simp [restart], rfl, rfl, rfl, rfl, by rw [← h.txt], ?_⟩⟩
      show used (l.texts ++ [t]) ≤ 5 * (k + 1)
      rw [used_append]
      simp only [used]
      omega
theorem Good.final {d : D} {l : L} {want : List (List (BitVec 8))} {k : Nat} (h : Good d l want k) : open_ (restart d) 0 120 = (some ⟨0, 120, want, l.used, false⟩, 0) := by
  have hf := h.is.fit
  have hse := h.sec
  have hfr := h.fr
  have hp := h.is.parse_eq
  rw [hse, hfr, h.txt] at hp
  rw [(open_ok (d := restart d) (by show 15360 ≤ d.b.length; omega) rfl hp).1, h.is.used_eq, h.txt]
theorem Good.fresh : Good (fresh 120) ⟨0, 120, [], 0, false⟩ [] 0 := by
  have hb : (Dk.fresh 120).b.length = 15360 := by
    show (List.replicate (120 * 128) (0 : BitVec 8)).length = 15360
    rw [List.length_replicate]
  have hs : slot (region (Dk.fresh 120) 0 120) = .no := by
    unfold slot
    rw [if_pos]
    rw [region_getD _ _ _ _ (by omega)]
    simp only [Dk.fresh, List.getD]
    rw [List.getElem?_replicate]
    split <;> rfl
  have h : parse 120 (region (Dk.fresh 120) 0 120) = ([], true) := parse_no _ _ hs
  exact ⟨⟨by rw [hb]; decide, rfl, h⟩, (show (-1 : Int) ≤ -1 by omega), rfl, rfl, rfl, rfl, rfl, Nat.zero_le _⟩
end Go.Proofs.Ytdnjjemdnlegdaa.Slo
namespace Go.Proofs.Ytdnjjemdnlegdaa
set_option linter.unusedVariables false
set_option linter.unusedSimpArgs false
open Go Go.RowKit

/-- An act's cells. -/
def actC9 (wt wh at_ : Int) (mask : List (BitVec 8)) (v : Value) : List Value := [.int .i64 wt, .int .i64 wh, .int .i64 at_] ++ (bcells mask ++ [v])
/-- A slice of acts, as an argument. -/
def Acts9 (w : World) (a : Option Addr) (len : Nat) : Prop := 0 < len → ∃ b off, a = some ⟨b, off, none⟩ ∧ b < w.heap.size ∧ ∀ i, i < len → ∃ (wt wh at_ : Int) (mask : List (BitVec 8)) (v : Value) (xs : List (BitVec 8)),
  w.rangeAt b (off + i * 20) (actC9 wt wh at_ mask v) ∧ SlB w v xs ∧ mask.length = 16 ∧ (-9223372036854775808 ≤ wt ∧ wt ≤ 9223372036854775807) ∧ (-9223372036854775808 ≤ wh ∧ wh ≤ 9223372036854775807) ∧ (-9223372036854775808 ≤ at_ ∧ at_ ≤ 9223372036854775807)

theorem OwnL.shape {E base : Nat} {w : World} {v : Value} {vs : List Value} (h : OwnL E base w v vs) : ∃ a cap, v = .slice a vs.length cap ∧ vs.length ≤ cap ∧ cap ≤ maxLen := by
  rcases h.sl with ⟨rfl, rfl⟩ | ⟨b, off, cap, rfl, h1, h2, _⟩
  · exact ⟨none, 0, rfl, Nat.le_refl _, by unfold maxLen; omega⟩
  · exact ⟨_, cap, rfl, h1, h2⟩
/-- The texts that a log should hold: a slice of the call's own, of slices that the call was given. -/
structure Want (w wr : World) (v : Value) (ts : List (List (BitVec 8))) (us : List Value) : Prop where
  own : OwnL 22 0 wr v us
  new : ∀ k, v.ownBlock = some k → w.heap.size ≤ k
  len : us.length = ts.length
  txt : ∀ i, i < ts.length → SlB w (us.getD i undef) (ts.getD i [])
/-- The blocks that are not the log's: what lay there when the call began, and the slice of the texts that it should hold. -/
def FW (w : World) (v : Value) : Nat → Prop := fun k => k < w.heap.size ∨ v.ownBlock = some k
theorem Want.lt {w wr : World} {v : Value} {ts : List (List (BitVec 8))} {us : List Value} (h : Want w wr v ts us) (hs : w.heap.size ≤ wr.heap.size) : ∀ k, FW w v k → k < wr.heap.size := fun k hk => by
  rcases hk with h1 | h1
  · omega
  · exact (World.ownsRow.lt h.own k h1).2
theorem OwnL.fr {E base : Nat} {F : Nat → Prop} {w w' : World} {v : Value} {vs : List Value} (h : OwnL E base w v vs) (hf : Fr F w w') (hv : ∀ k, v.ownBlock = some k → F k) : OwnL E base w' v vs := by
  obtain ⟨K, hk, hK⟩ := hf
  exact h.kept hk fun k e hm => hK k hm (hv k e)
theorem Want.fr {w wr w' : World} {v : Value} {ts : List (List (BitVec 8))} {us : List Value} (h : Want w wr v ts us) (hf : Fr (FW w v) wr w') : Want w w' v ts us :=
  ⟨h.own.fr hf fun k e => .inr e, h.new, h.len, h.txt⟩
theorem Want.sls {w wr : World} {v : Value} {ts : List (List (BitVec 8))} {us : List Value} (h : Want w wr v ts us) (hb : Below w.heap.size w wr) : SlS wr v ts := by
  have hl := h.len
  rcases h.own.sl with ⟨rfl, hvs⟩ | ⟨b, off, cap, rfl, h1, h2, h3, h4⟩
  · have h0 : ts = [] := List.eq_nil_of_length_eq_zero (by rw [← hl, hvs]; rfl)
    subst h0
    exact ⟨none, 0, rfl, Nat.le_refl _, by unfold maxLen; omega, fun j hj => absurd hj (Nat.not_lt_zero _)⟩
  · rw [hl] at h1 h4 ⊢
    refine ⟨some ⟨b, off, none⟩, cap, rfl, h1, h2, fun j hj => ⟨b, off, us.getD j undef, rfl, h3, ?_, (h.txt j hj).below hb (Nat.le_refl _)⟩⟩
    have := h4 j hj
    simpa [List.getD] using this
theorem Want.nil (w wr : World) : Want w wr (.slice none 0 0) [] [] := ⟨OwnL.nil _ _ _, fun k e => by simp [Value.ownBlock] at e, rfl, fun i hi => absurd hi (Nat.not_lt_zero _)⟩
/-- One more text that it should hold. -/
theorem want_more {w w3 w5 : World} {p g q : Nat} {d : Dk.D} {l : Slo.L} {v v2 u : Value} {ts : List (List (BitVec 8))} {us : List Value} {t : List (BitVec 8)} {o : Obj} (h : DL (FW w v) w3 p g q d l) (hw : Want w w3 v ts us) (hb : Below w.heap.size w w3)
    (hg : (w3.alloc o).grownBy w5 v.ownBlock) (hown : OwnL 22 0 w5 v2 (us ++ [u])) (hat : v2.ownBlock = v.ownBlock ∨ v2.ownBlock = some (w3.alloc o).heap.size) (hu : SlB w u t) :
    DL (FW w v2) w5 p g q d l ∧ Want w w5 v2 (ts ++ [t]) (us ++ [u]) ∧ Below w.heap.size w w5 := by
  have hz : (w3.alloc o).heap.size = w3.heap.size + 1 := by simp
  have hbs := hb.size
  have h1 := h.below ((Below.refl _ w3).alloc (Nat.le_refl _) o)
  have h2 : DL (fun k => FW w v k ∨ v2.ownBlock = some k) (w3.alloc o) p g q d l := h1.others fun k hk hf => by
    rcases hf with hf | hf
    · exact hf
    · rcases hat with e | e
      · exact .inr (e ▸ hf)
      · rw [e] at hf; simp only [Option.some.injEq] at hf; omega
  have hK : Kept v.ownBlock.toList (w3.alloc o) w5 := (Kept.refl _ (w3.alloc o)).grown hg fun k e => .inl (by simp [e])
  have h3 := h2.kept hK fun k hm => .inl (.inr (by simpa using hm))
  refine ⟨h3.others fun k _ hf => ?_, ⟨hown, fun k e => ?_, by simp [hw.len], fun i hi => ?_⟩, (hb.alloc hbs o).grown hg (by omega) fun k e => hw.new k e⟩
  · rcases hf with hf | hf
    · exact .inl (.inl hf)
    · exact .inr hf
  · rcases hat with h5 | h5
    · exact hw.new k (h5 ▸ e)
    · rw [h5] at e; simp only [Option.some.injEq] at e; omega
  · rw [List.length_append, List.length_cons, List.length_nil] at hi
    have hl := hw.len
    by_cases he : i < ts.length
    · have e1 : (us ++ [u]).getD i undef = us.getD i undef := by simp only [List.getD]; rw [List.getElem?_append_left (by omega)]
      have e2 : (ts ++ [t]).getD i [] = ts.getD i [] := by simp only [List.getD]; rw [List.getElem?_append_left he]
      rw [e1, e2]
      exact hw.txt i he
    · obtain rfl : i = ts.length := by omega
      have e1 : (us ++ [u]).getD ts.length undef = u := by simp only [List.getD]; rw [List.getElem?_append_right (by omega)]; simp [hl]
      have e2 : (ts ++ [t]).getD ts.length [] = t := by simp only [List.getD]; rw [List.getElem?_append_right (by omega)]; simp
      rw [e1, e2]
      exact hu
/-- Between two rounds. -/
structure WS (w wr : World) (p g q : Nat) (v : Value) (d : Dk.D) (l : Slo.L) (want : List (List (BitVec 8))) (us : List Value) (k : Nat) : Prop where
  dl : DL (FW w v) wr p g q d l
  good : Slo.Good d l want k
  want : Want w wr v want us
  below : Below w.heap.size w wr
section
variable {w wr : World} {p g q : Nat} {v : Value} {d : Dk.D} {l : Slo.L} {want : List (List (BitVec 8))} {us : List Value} {k : Nat}
theorem WS.lt (h : WS w wr p g q v d l want us k) : ∀ j, FW w v j → j < wr.heap.size := h.want.lt h.below.size
theorem WS.cut (h : WS w wr p g q v d l want us k) (wh : Int) (h0 : 0 ≤ wh) (h1 : wh ≤ 9223372036854775807) (mask : List (BitVec 8)) (hm : mask.length = 16) :
    Calls Try.prog 18 #[.pointer (some ⟨p, 0, none⟩), .int .i64 wh, .agg (bytes mask)] wr fun e w' => (∃ u, e = .returned u) ∧ WS w w' p g q v (Dk.cut d wh mask).1 l want us k := by
  refine (dk_cut h.dl.disk wh mask hm h1).mono ?_
  rintro e w' ⟨rfl, hD, hK⟩
  have hf := h.dl.frD hK
  exact ⟨⟨_, rfl⟩, h.dl.keptD hK hD, h.good.cut wh h0 mask, h.want.fr hf, h.below.trans (hf.toBelow (fun j hj => .inl hj) h.below.size)⟩
/-- Append: told OK, the log holds the text; else the power is gone, and the log that is opened behind holds the text or does not. -/
theorem WS.append (h : WS w wr p g q v d l want us k) (hk : k < 20) (u : Value) (t : List (BitVec 8)) (hs : SlB w u t) (ht : t.length ≤ 600) :
    Calls Try.prog 30 #[.pointer (some ⟨q, 0, none⟩), u] wr fun e w' => ∃ d' c, e = .returned (.int .i64 c) ∧ DiskAt w' p g d' ∧ Want w w' v want us ∧ Below w.heap.size w w' ∧ (∀ j, FW w v j → j < w'.heap.size) ∧ (¬ FW w v p ∧ ¬ FW w v g) ∧
      ((c = 0 ∧ ∃ l', DL (FW w v) w' p g q d' l' ∧ Slo.Good d' l' (want ++ [t]) (k + 1)) ∨
       (c = 12 ∧ ∃ l', Slo.open_ (Dk.restart d') 0 120 = (some l', 0) ∧ (Slo.Good (Dk.restart d') l' want (k + 1) ∨ Slo.Good (Dk.restart d') l' (want ++ [t]) (k + 1)))) := by
  have hlt := h.dl.ge
  refine (h.dl.append h.lt u t (hs.below h.below (Nat.le_refl _)) fun hne j hj => ?_).mono ?_
  · have := hs.lt hne j hj
    simp only [List.mem_cons, List.not_mem_nil, or_false, not_or]
    exact ⟨fun e => hlt.1 (.inl (by omega)), fun e => hlt.2.1 (.inl (by omega)), fun e => hlt.2.2 (.inl (by omega))⟩
  · rintro e w' ⟨rfl, hDL, hf⟩
    have hb := h.below.trans (hf.toBelow (fun j hj => .inl hj) h.below.size)
    have hw := h.want.fr hf
    refine ⟨_, _, rfl, hDL.disk, hw, hb, hw.lt hb.size, ⟨hlt.1, hlt.2.1⟩, ?_⟩
    rcases h.good.append h.dl.disk.ok hk t ht hDL.disk.ok.left0 with ⟨e0, hg⟩ | ⟨e12, hg⟩
    · exact .inl ⟨e0, _, hDL, hg⟩
    · exact .inr ⟨e12, hg⟩
end
/-- What is known behind an append that was told that the power is gone. -/
structure Gone (w w3 : World) (p g : Nat) (v : Value) (d : Dk.D) (want : List (List (BitVec 8))) (us : List Value) : Prop where
  disk : DiskAt w3 p g d
  want : Want w w3 v want us
  below : Below w.heap.size w w3
  apart : ¬ FW w v p ∧ ¬ FW w v g
section
variable {w w3 : World} {p g : Nat} {v : Value} {d : Dk.D} {want : List (List (BitVec 8))} {us : List Value}
theorem Gone.restart (h : Gone w w3 p g v d want us) : Calls Try.prog 25 #[.pointer (some ⟨p, 0, none⟩)] w3 fun e w' => e = .returned (.int .i64 0) ∧ Gone w w' p g v (Dk.restart d) want us := by
  refine (dk_restart h.disk).mono ?_
  rintro e w' ⟨rfl, hD, hK⟩
  have hf : Fr (FW w v) w3 w' := ⟨[p, g], hK, fun j hm => by
    simp only [List.mem_cons, List.not_mem_nil, or_false] at hm
    rcases hm with rfl | rfl
    · exact h.apart.1
    · exact h.apart.2⟩
  exact ⟨rfl, hD, h.want.fr hf, h.below.trans (hf.toBelow (fun j hj => .inl hj) h.below.size), h.apart⟩
theorem Gone.open_ (h : Gone w w3 p g v d want us) {l' : Slo.L} (ho : Slo.open_ d 0 120 = (some l', 0)) : Calls Try.prog 31 #[.pointer (some ⟨p, 0, none⟩), .int .i64 0, .int .i64 120] w3 fun e w' =>
    ∃ q, e = .returned (.tuple #[.pointer (some ⟨q, 0, none⟩), .int .i64 0]) ∧ DL (FW w v) w' p g q d l' ∧ Want w w' v want us ∧ Below w.heap.size w w' ∧ Below w3.heap.size w3 w' := by
  refine (open_dl h.disk (h.want.lt h.below.size) h.apart 0 120 (by omega) (by omega)).mono ?_
  rintro e w' ⟨hb, ⟨c, h1, _⟩ | ⟨l2, q, h1, rfl, hd⟩⟩
  · rw [ho] at h1; cases h1
  · rw [ho] at h1
    obtain rfl : l' = l2 := by have := congrArg Prod.fst h1; simpa using this
    have hf : Fr (FW w v) w3 w' := Fr.ofBelow hb
    exact ⟨q, rfl, hd, h.want.fr hf, h.below.trans (hb.mono h.below.size), hb⟩
end
theorem WS.restart {w wr : World} {p g q : Nat} {v : Value} {d : Dk.D} {l : Slo.L} {want : List (List (BitVec 8))} {us : List Value} {k : Nat} (h : WS w wr p g q v d l want us k) :
    Calls Try.prog 25 #[.pointer (some ⟨p, 0, none⟩)] wr fun e w' => e = .returned (.int .i64 0) ∧ DL (FW w v) w' p g q (Dk.restart d) l ∧ Gone w w' p g v (Dk.restart d) want us := by
  refine (dk_restart h.dl.disk).mono ?_
  rintro e w' ⟨rfl, hD, hK⟩
  have hf := h.dl.frD hK
  exact ⟨rfl, h.dl.keptD hK hD, hD, h.want.fr hf, h.below.trans (hf.toBelow (fun j hj => .inl hj) h.below.size), ⟨h.dl.ge.1, h.dl.ge.2.1⟩⟩
/-- A list of texts that is new keeps what it reads as. -/
theorem Tx.slsKept {w6 w7 : World} {vo : Value} {ts : List (List (BitVec 8))} {us : List Value} {l K : List Nat} {B : Nat} (h : Tx w6 vo ts us l) (h1 : ∀ k, vo.ownBlock = some k → B ≤ k) (h2 : ∀ i k, (us.getD i undef).ownBlock = some k → B ≤ k) (hk : Kept K w6 w7) (hK : ∀ k, k ∈ K → k < B) : SlS w7 vo ts := by
  have h3 : Tx w7 vo ts us [] := ⟨h.own.kept hk fun k e hm => by have := h1 k e; have := hK k hm; omega, h.len, fun i hi => (h.txt i hi).keptV hk fun k e hm => by have := h2 i k e; have := hK k hm; omega,
    fun i hi k e => ⟨by simp, (h.apart i hi k e).2.1, Nat.lt_of_lt_of_le (h.apart i hi k e).2.2 hk.size⟩, fun k e => by simp⟩
  exact h3.sls
end Go.Proofs.Ytdnjjemdnlegdaa
namespace Go.Proofs.Ytdnjjemdnlegdaa
set_option linter.unusedVariables false
set_option linter.unusedSimpArgs false
open Go Go.RowKit Go.WideShapes Go.ChangeShapes

theorem open_act09 {H : Type} {enc : TypeId × Value → H} {W : World} {fuel : Nat} {cs : List Value} {x : DataW H × List MemPlace} (h : DataW.trod enc Try.prog W 0 (fun _ => true) true fuel 53 cs = some x) :
    ∃ (wt wh at_ : Int) (mask : List (BitVec 8)) (v : Value) (xs : List (BitVec 8)), cs = actC9 wt wh at_ mask v ∧ SlB W v xs ∧ mask.length = 16 ∧ (-9223372036854775808 ≤ wt ∧ wt ≤ 9223372036854775807) ∧ (-9223372036854775808 ≤ wh ∧ wh ≤ 9223372036854775807) ∧ (-9223372036854775808 ≤ at_ ∧ at_ ≤ 9223372036854775807) := by
  obtain ⟨ys, m, _, _, hl, hyl, hf⟩ := DataW.trod_struct Try.underlying53 h
  have k5 : Try.prog.cellsOf 5 = 1 := by kernel_rfl
  have k3 : Try.prog.cellsOf 3 = 1 := by kernel_rfl
  have k22 : Try.prog.cellsOf 22 = 1 := by kernel_rfl
  have k23 : Try.prog.cellsOf 23 = 16 := by kernel_rfl
  have kA : Try.prog.cellsOf 53 = 20 := by kernel_rfl
  rw [kA] at hl
  have g : ∀ i, i < 5 → ∃ y, ys[i]? = some y := fun i hi => ⟨_, List.getElem?_eq_getElem (by rw [hyl]; exact hi)⟩
  obtain ⟨y0, e0⟩ := g 0 (by omega)
  obtain ⟨y1, e1⟩ := g 1 (by omega)
  obtain ⟨y2, e2⟩ := g 2 (by omega)
  obtain ⟨y3, e3⟩ := g 3 (by omega)
  obtain ⟨y4, e4⟩ := g 4 (by omega)
  have f0 : DataW.trod enc Try.prog W 0 (fun _ => true) true m 3 ((cs.drop 0).take (Try.prog.cellsOf 3)) = ys[0]? := hf 0 _ rfl
  rw [k3, e0] at f0
  have f1 : DataW.trod enc Try.prog W 0 (fun _ => true) true m 3 ((cs.drop 1).take (Try.prog.cellsOf 3)) = ys[1]? := hf 1 _ rfl
  rw [k3, e1] at f1
  have f2 : DataW.trod enc Try.prog W 0 (fun _ => true) true m 3 ((cs.drop 2).take (Try.prog.cellsOf 3)) = ys[2]? := hf 2 _ rfl
  rw [k3, e2] at f2
  have f3 : DataW.trod enc Try.prog W 0 (fun _ => true) true m 23 ((cs.drop 3).take (Try.prog.cellsOf 23)) = ys[3]? := hf 3 _ rfl
  rw [k23, e3] at f3
  have f4 : DataW.trod enc Try.prog W 0 (fun _ => true) true m 22 ((cs.drop 19).take (Try.prog.cellsOf 22)) = ys[4]? := hf 4 _ rfl
  rw [k22, e4] at f4
  obtain ⟨wt, h0, ra, rb⟩ := tr_int Try.underlying3 f0
  obtain ⟨wh, h1, rc, rd⟩ := tr_int Try.underlying3 f1
  obtain ⟨at_, h2, re, rf⟩ := tr_int Try.underlying3 f2
  obtain ⟨mask, hm, h3⟩ := tr_bytes Try.underlying23 Try.underlying5 k5 k23 f3
  obtain ⟨v, xs, h4, hs⟩ := tr_sl Try.underlying22 Try.underlying5 k5 f4
  refine ⟨wt, wh, at_, mask, v, xs, ?_, hs, hm, ⟨ra, rb⟩, ⟨rc, rd⟩, ⟨re, rf⟩⟩
  have e : cs = cs.drop 0 := rfl
  rw [e, cut_at cs 0 1, cut_at cs (0 + 1) 1, cut_at cs (0 + 1 + 1) 1, cut_at cs (0 + 1 + 1 + 1) 16, cut_at cs (0 + 1 + 1 + 1 + 16) 1, h0, h1, h2, h3, h4, List.drop_of_length_le (by omega)]
  simp [actC9, byteV, bcells]
def ActSl9 (w : World) (v : Value) : Prop := ∃ a n cap, v = .slice a n cap ∧ n ≤ cap ∧ cap ≤ maxLen ∧ Acts9 w a n
set_option maxRecDepth 100000 in
theorem open_acts09 {H : Type} {enc : TypeId × Value → H} {W : World} {r : Reach} {base : Nat} {v : Value} {d : DataW H} {ps : List MemPlace} (hv : Value.okWide Try.prog W r base 48 v) (h : DataW.Trod enc Try.prog W 0 (fun _ => true) true 48 v d ps) : ActSl9 W v := by
  obtain ⟨a, l, c, rfl⟩ := slice_form Try.underlying48 hv
  obtain ⟨m, hm⟩ := h
  obtain ⟨a', len, cap, e, h1, h2, h3⟩ := tr_slice (sz := 20) Try.underlying48 (by kernel_rfl) (by omega) hm
  have e : Value.slice a l c = .slice a' len cap := by simpa [Value.cells] using e
  simp only [Value.slice.injEq] at e
  obtain ⟨rfl, rfl, rfl⟩ := e
  refine ⟨a, l, c, rfl, h1, h2, fun hp => ?_⟩
  obtain ⟨b, off, ha, hb, hx⟩ := h3 hp
  refine ⟨b, off, ha, hb, fun i hi => ?_⟩
  obtain ⟨cs, hl, hc, n, y, ht⟩ := hx i hi
  obtain ⟨wt, wh, at_, mask, v, xs, rfl, hs, hm, r1, r2, r3⟩ := open_act09 ht
  exact ⟨wt, wh, at_, mask, v, xs, fun j u hu => hc j u hu, hs, hm, r1, r2, r3⟩
end Go.Proofs.Ytdnjjemdnlegdaa
namespace Go.Proofs.Ytdnjjemdnlegdaa
set_option linter.unusedVariables false
set_option linter.unusedSimpArgs false
open Go Go.RowKit

theorem rtaken_any (n : Nat) (hn : n ≤ 1000000000) (w : World) : Calls Try.prog 67 #[.int .i64 (n : Int)] w fun e w' => e = .returned (.int .i64 ((Slo.taken n : Nat) : Int)) ∧ w' = w := by
  have hg := Slo.taken_ge n
  have hu := Slo.taken_le n
  have hp := Slo.taken_pos n
  generalize Slo.taken n = tk at hg hu hp ⊢
  go_enter Try.func67, Try.ntmps67
  go_wp2
  go_loopw [3] (fun s wr => ∃ k : Nat, 1 ≤ k ∧ k ≤ tk ∧ s = .int .i64 k ∧ wr = w) (fun s _ => tk - (intOf s).toNat)
  case atStart => exact ⟨1, by omega, by omega, rfl, rfl⟩
  case round =>
    obtain ⟨k, hk1, hk2, rfl, rfl⟩ := hrel
    have q1 : IntKind.i64.wrap (128 * (k : Int)) = 128 * k := by rw [IntKind.wrap_i64]; omega
    have q2 : IntKind.i64.wrap ((n : Int) + 5) = n + 5 := by rw [IntKind.wrap_i64]; omega
    by_cases hlt : k < tk
    · have h1 : 128 * (k : Int) < n + 5 := by omega
      go_wp2
      exact ⟨⟨k + 1, by omega, by omega, by go_num, by first | trivial | rfl⟩, by simp [intOf]; omega⟩
    · obtain rfl : k = tk := by omega
      have h1 : ¬ 128 * (k : Int) < n + 5 := by omega
      go_wp2
      go_ret
      exact ⟨rfl, rfl⟩

theorem one_zero {b : Nat} {cs : Array Value} {w : World} {t : TypeId} (h : w.heap[b]? = some (.cells cs t (0, 0))) (hc : cs = #[.int .u8 0]) : SlB w (.slice (some ⟨b, 0, none⟩) 1 1) [0] := by
  subst hc
  exact sl_row [0] h rfl (by simp)
theorem own_row {E base : Nat} {w : World} {b : Nat} (xs : List (BitVec 8)) (h : w.heap[b]? = some (.cells (bytes xs) E (0, 0))) (hb : base ≤ b) (hm : xs.length ≤ 1000000) : OwnB E base w (.slice (some ⟨b, 0, none⟩) xs.length xs.length) xs := by
  refine ⟨by simp [bcells_length], .inr ⟨b, xs.length, bytes xs, rfl, hb, h, Nat.le_refl _, by unfold maxLen; omega, by simp [bytes_size], ?_⟩⟩
  rw [bytes_toList, Nat.mul_one, List.take_of_length_le (by rw [bcells_length]; omega)]
end Go.Proofs.Ytdnjjemdnlegdaa
namespace Go.Proofs.Ytdnjjemdnlegdaa
set_option linter.unusedVariables false
set_option linter.unusedSimpArgs false
open Go Go.RowKit

set_option maxRecDepth 100000 in
set_option maxHeartbeats 2000000 in
theorem rslot_any (t : List (BitVec 8)) (m : BitVec 8) (v : Value) (w : World) (hs : SlB w v t) (hl : t.length ≤ 262144) :
    Calls Try.prog 68 #[v, .int .u8 (bv m)] w (RetB w (Slo.laid m t)) := by
  obtain ⟨a, cap, rfl⟩ := hs.len
  have hg := Slo.taken_ge t.length
  have hu := Slo.taken_le t.length
  have HS := Lib.hid (fun W (hB : Below w.heap.size w W) => hs.below hB (Nat.le_refl _))
  have HTK := Lib.hid (fun w => rtaken_any t.length (by omega) w)
  have HN4 := Lib.hid (show (m :: Num.num t.length 4) = [m, BitVec.ofNat 8 (t.length / 16777216), BitVec.ofNat 8 (t.length / 65536), BitVec.ofNat 8 (t.length / 256), BitVec.ofNat 8 t.length] by rw [Num.num4])
  have HLD := Lib.hid (show Slo.laid m t = ((m :: Num.num t.length 4) ++ t) ++ List.replicate (128 * Slo.taken t.length - 5 - t.length) 0 by simp [Slo.laid])
  have HHL := Lib.hid (show (m :: Num.num t.length 4).length = 5 by simp [Num.num_length])
  have e1 := bv_nat (t.length / 16777216)
  have e2 := bv_nat (t.length / 65536)
  have e3 := bv_nat (t.length / 256)
  have e4 := bv_nat t.length
  have HE := Lib.hid (show bv (BitVec.ofNat 8 (t.length / 16777216)) = (t.length : Int) / 16777216 % 256 ∧ bv (BitVec.ofNat 8 (t.length / 65536)) = (t.length : Int) / 65536 % 256 ∧ bv (BitVec.ofNat 8 (t.length / 256)) = (t.length : Int) / 256 % 256 ∧ bv (BitVec.ofNat 8 t.length) = (t.length : Int) % 256 by omega)
  clear e1 e2 e3 e4 hs
  generalize m :: Num.num t.length 4 = H5 at HN4 HLD HHL
  generalize Slo.laid m t = R at HLD ⊢
  obtain ⟨mv, hmv⟩ : ∃ mv, bv m = mv := ⟨_, rfl⟩
  rw [hmv]
  have HMV := Lib.hid hmv
  clear hmv
  obtain ⟨n, hn⟩ : ∃ n, t.length = n := ⟨_, rfl⟩
  have HN := Lib.hid hn
  rw [hn] at hg hu hl HTK HN4 HLD HE ⊢
  generalize Slo.taken n = tk at hg hu HTK HLD
  have HG := Lib.hid hg
  have HU := Lib.hid hu
  have HL := Lib.hid hl
  have w1 : IntKind.i64.wrap ((n : Int) / 16777216) = (n : Int) / 16777216 := by rw [IntKind.wrap_i64]; omega
  have w2 : IntKind.i64.wrap ((n : Int) / 65536) = (n : Int) / 65536 := by rw [IntKind.wrap_i64]; omega
  have w3 : IntKind.i64.wrap ((n : Int) / 256) = (n : Int) / 256 := by rw [IntKind.wrap_i64]; omega
  have t2 : ((n : Int) / 65536).tmod 256 = (n : Int) / 65536 % 256 := Int.tmod_eq_emod_of_nonneg (by omega)
  have t3 : ((n : Int) / 256).tmod 256 = (n : Int) / 256 % 256 := Int.tmod_eq_emod_of_nonneg (by omega)
  clear hg hu hl hn
  go_enter Try.func68, Try.ntmps68
  go_upto_region 3 with fail
  clear w1 w2 w3 t2 t3
  obtain ⟨W, hW, hBW, hWs, hW0⟩ := alloc1 w (.cells #[.int .u8 mv, .int .u8 ((n : Int) / 16777216 % 256), .int .u8 ((n : Int) / 65536 % 256), .int .u8 ((n : Int) / 256 % 256), .int .u8 ((n : Int) % 256)] 5)
  rw [hW]
  have HO := Lib.hid (show OwnB 5 w.heap.size W (.slice (some ⟨w.heap.size, 0, none⟩) 5 5) H5 by
    have h5 := own_row (base := w.heap.size) (E := 5) (w := W) H5 (b := w.heap.size) (by
      rw [hW0, HN4.out]
      obtain ⟨g1, g2, g3, g4⟩ := HE.out
      simp only [bytes, List.map_cons, List.map_nil, g1, g2, g3, g4, HMV.out]) (Nat.le_refl _) (by rw [HHL.out]; omega)
    rw [HHL.out] at h5
    exact h5)
  have HBW := Lib.hid hBW
  clear hW hBW hWs hW0
  go_upto_region 4 with (at_builtin; refine wpList_append_b rfl (.tmp 25) (.tmp 26) 22 5 rfl Try.underlying22 info_u8 w.heap.size _ _ HO.out rfl _ t (by have := HS.out W HBW.out; rw [HN.out] at this; exact this) rfl (by rw [HHL.out, HN.out]; have := HL.out; omega) HBW.out.size ?_; intro v2 w2 ho hg hn'; have HO2 := Lib.hid ho; have HB2 := Lib.hid (HBW.out.grown hg HBW.out.size (fun k e => (World.ownsRow.lt HO.out k e).1)); clear ho hg hn')
  go_wp2
  go_loopw [6] (fun s wr => ∃ k : Nat, k ≤ 128 * tk - 5 - n ∧ Hid (OwnB 5 w.heap.size wr s ((H5 ++ t) ++ List.replicate k 0)) ∧ Hid (Below w.heap.size w wr)) (fun s _ => 128 * tk - (match s with | .slice _ n _ => n | _ => 0))
  case atStart => exact ⟨0, by omega, by simpa using HO2, HB2⟩
  case round =>
    obtain ⟨k, hk, HOk, HBk⟩ := hrel
    have hlen : ((H5 ++ t) ++ List.replicate k 0).length = 5 + n + k := by simp only [List.length_append, List.length_replicate, HHL.out, HN.out]
    obtain ⟨a2, cap2, hsv⟩ := HOk.out.sl.len
    rw [hlen] at hsv
    subst hsv
    have hl := HL.out
    have hu := HU.out
    have hg := HG.out
    have HLK := Lib.hid hlen
    have q1 : IntKind.i64.wrap (128 * (tk : Int)) = 128 * tk := by rw [IntKind.wrap_i64]; omega
    clear hlen
    by_cases hlt : 5 + n + k < 128 * tk
    · have h1 : ((5 + n + k : Nat) : Int) < 128 * tk := by omega
      go_wp2_with (first
        | (go_at_call 67; refine (HTK.out _).mono ?_; rintro e w' ⟨rfl, rfl⟩)
        | (at_builtin; refine wpList_append_b rfl (.tmp 34) (.tmp 35) 22 5 rfl Try.underlying22 info_u8 w.heap.size _ _ (HOk.out.alloc _) rfl _ [0] (one_zero (heap_alloc_new _ _) rfl) rfl (by rw [HLK.out]; simp; omega) (by have := HBk.out.size; simp; omega) ?_; intro v2 w2 ho hg2 hn'; have HO3 := Lib.hid ho; have HB3 := Lib.hid ((HBk.out.alloc HBk.out.size _).grown hg2 (by have := HBk.out.size; simp; omega) (fun k e => (World.ownsRow.lt HOk.out k e).1)); clear ho hg2 hn'))
      refine ⟨⟨k + 1, by omega, ?_, HB3⟩, ?_⟩
      · rw [List.replicate_succ', ← List.append_assoc]; exact HO3
      · have h4 := HO3.out.sl.len
        obtain ⟨a3, cap3, rfl⟩ := h4
        have hh1 := HHL.out
        have hh2 := HN.out
        simp
        omega
    · have h1 : ¬ ((5 + n + k : Nat) : Int) < 128 * tk := by omega
      obtain rfl : k = 128 * tk - 5 - n := by omega
      go_wp2_with (go_at_call 67; refine (HTK.out _).mono ?_; rintro e w' ⟨rfl, rfl⟩)
      go_ret
      refine ⟨_, rfl, ?_, HBk.out⟩
      rw [HLD.out]
      exact HOk.out
end Go.Proofs.Ytdnjjemdnlegdaa
