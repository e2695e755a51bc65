/-
  The law HmacEqual: its walk.
-/
import Derived.Test.YtnoilogepkelaaaDoorHmaL1
import Derived.Test.YtnoilogepkelaaaDoorApp
namespace Go.Proofs.YtnoilogepkelaaaDoor
set_option linter.unusedVariables false
set_option linter.unusedSimpArgs false
open Go Go.RowKit
attribute [local go_sem] u8_xor'

set_option maxRecDepth 100000 in
set_option maxHeartbeats 4000000 in
theorem law_hmacEqual {w : World} (v0 : Value) (x0 : List (BitVec 8)) (h0 : SlB w v0 x0) (at_ : Int) (hat0 : 0 ≤ at_) (hat1 : at_ < 65536) (m : BitVec 8) (hG : Glob w) :
    Calls Tryd.prog 12 #[v0, .int .u16 at_, .int .u8 (bv m)] w fun e w' => e = .returned (.bool true) ∧ Below w.heap.size w w' := by
  have HCU := Lib.hid (cut_any x0 v0 w h0)
  obtain ⟨A, hA⟩ : ∃ A, x0.take 600 = A := ⟨_, rfl⟩
  have hAl : A.length ≤ 600 := by rw [← hA, List.length_take]; omega
  rw [hA] at HCU
  have hgz := hG.size
  have HAW := Lib.hid (fun W (hB : Below w.heap.size w W) => hworks_any W (hG.below hB hgz))
  have HY := Lib.hid (fun v u W (ha : SlB W v A) (hb : SlB W u A) => equal_yes A v u W ha hb (by omega))
  have HNO := Lib.hid (fun b c (hne : b ≠ c) v u W (ha : SlB W v b) (hb : SlB W u c) (hl : b.length ≤ 600) => equal_no b c hne v u W ha hb (by omega))
  have HNE := Lib.hid (fun e => by have := congrArg List.length e; simp at this : A ≠ A ++ [m])
  have HAL := Lib.hid hAl
  obtain ⟨n, hn⟩ : ∃ n, A.length = n := ⟨_, rfl⟩
  have HN := Lib.hid hn
  rw [hn] at hAl
  clear h0 hG hA hn
  go_enter Tryd.func12, Tryd.ntmps12
  go_upto_region 3 with (first
    | (go_at_call 40; refine HCU.out.mono ?_; rintro e w' ⟨u1, rfl, hu, rfl⟩; have HU := Lib.hid hu; clear hu)
    | (at_builtin; refine wpList_append_b rfl (.tmp 11) (.tmp 12) 22 5 rfl Tryd.underlying22 info_u8 w.heap.size (.slice (some ⟨w.heap.size, 0, none⟩) 0 0) [] (own_none' w) rfl _ A (HU.out.alloc _) rfl (by have := HAL.out; simp; omega) (by simp) ?_; intro v2 w1 ho hg hn'; have HO1 := Lib.hid ho; have HB1 := Lib.hid (((Below.refl _ w).alloc (Nat.le_refl _) _).grown hg (by simp) (fun k e => by simp only [Value.ownBlock, Option.some.injEq] at e; omega)); clear ho hg hn'))
  rw [List.nil_append] at HO1
  have HU1 := Lib.hid (HU.out.below HB1.out (Nat.le_refl _))
  go_upto_region 5 with (first
    | (go_at_call 43; with_reducible refine Calls.mono (HY.out _ _ _ HU1.out HO1.out.sl) ?_; rintro e w2 ⟨rfl, hb⟩; have HB2 := Lib.hid (HB1.out.trans (hb.mono HB1.out.size)); have HO2 := Lib.hid (HO1.out.below hb (Nat.le_refl _)); clear hb)
    | (at_builtin; refine wpList_unguard (by rfl) ?_; refine wpList_append_b2 rfl (.tmp 20) (.tmp 22) 22 5 rfl Tryd.underlying22 info_u8 w.heap.size _ _ (HO2.out.alloc _) rfl _ [m] (one_new' _ _ _ rfl) (by simp) rfl (by have := HAL.out; simp; omega) (by have := HB2.out.size; simp; omega) ?_; intro v3 w3 ho hg ho'; have HO3 := Lib.hid ho; have HO3' := Lib.hid ho'; have HB3 := Lib.hid ((HB2.out.alloc HB2.out.size _).grown hg (by have := HB2.out.size; simp; omega) (fun k e => (World.ownsRow.lt HO2.out k e).1)); clear ho hg ho')
    | (go_at_call 43; with_reducible refine Calls.mono (HNO.out A (A ++ [m]) HNE.out _ _ _ (HU.out.below HB3.out (Nat.le_refl _)) HO3.out.sl HAL.out) ?_; rintro e w4 ⟨rfl, hb⟩; have HB4 := Lib.hid (HB3.out.trans (hb.mono HB3.out.size)); have HO4 := Lib.hid (HO3'.out.below hb (Nat.le_refl _)); clear hb))
  obtain ⟨a1, cap1, rfl⟩ := HU.out.len
  rw [HN.out] at HU HU1 ⊢
  clear HO1 HO2 HO3 HO3' HB1 HB2 HB3 HU1 HNE HCU
  by_cases hn0 : n = 0
  · subst hn0
    go_wp2_with (go_at_call 42; refine (HAW.out _ HB4.out).mono ?_; rintro e w5 ⟨rfl, hb⟩; have HB5 := Lib.hid (HB4.out.trans (hb.mono HB4.out.size)); clear hb)
    go_ret
    exact ⟨rfl, HB5.out⟩
  · have hnp : (0 : Int) < (n : Int) := by omega
    have hn0' : ((n : Int) == 0) = false := by simp; omega
    obtain ⟨p, hp, hpn⟩ : ∃ p : Nat, at_ % (n : Int) = (p : Int) ∧ p < n := by
      have h1 := Int.emod_nonneg at_ (show (n : Int) ≠ 0 by omega)
      have h2 := Int.emod_lt_of_pos at_ hnp
      exact ⟨(at_ % (n : Int)).toNat, by omega, by omega⟩
    obtain ⟨g, cap, rfl, hg0, hgl, hnc, hsl⟩ := HO4.out.form n HN.out (by omega)
    have c0 := HO4.out.get_cell p (by rw [HN.out]; exact hpn)
    unfold byteV at c0
    have f0 := HO4.out.not_frozen p
    have ho5 := HO4.out.set_cell p (by rw [HN.out]; exact hpn) (A.getD p 0 ^^^ m)
    have HB5 := Lib.hid (HB4.out.setCell (p := ⟨g, p, none⟩) hg0 (.int .u8 (bv (A.getD p 0 ^^^ m))))
    have HO5 := Lib.hid ho5.sl
    have HG5 := Lib.hid (show ∀ e : m = 0, A.set p (A.getD p 0 ^^^ m) = A from fun e => by
      rw [e, show ∀ z : BitVec 8, z ^^^ 0 = z from fun z => BitVec.xor_zero]
      apply List.ext_getElem?
      intro j
      rw [List.getElem?_set]
      by_cases h : p = j
      · subst h
        rw [if_pos rfl, if_pos (by rw [HN.out]; exact hpn), List.getD, List.getElem?_eq_getElem (by rw [HN.out]; exact hpn)]
        rfl
      · rw [if_neg h])
    have HD5 := Lib.hid (show m ≠ 0 → A.set p (A.getD p 0 ^^^ m) ≠ A from fun h e => by
      have h1 := congrArg (fun l : List (BitVec 8) => l.getD p 0) e
      have h2 : (A.set p (A.getD p 0 ^^^ m)).getD p 0 = A.getD p 0 ^^^ m := by simp [List.getD, HN.out, hpn]
      simp only [h2] at h1
      apply h
      have h3 : A.getD p 0 ^^^ (A.getD p 0 ^^^ m) = A.getD p 0 ^^^ A.getD p 0 := congrArg (A.getD p 0 ^^^ ·) h1
      rwa [← BitVec.xor_assoc, BitVec.xor_self, BitVec.zero_xor] at h3)
    have HC := Lib.hid (show (A.set p (A.getD p 0 ^^^ m)).length ≤ 600 by rw [List.length_set]; exact HAL.out)
    have HSF := Lib.hid (fun W (hB : Below w.heap.size w W) => (HU.out.below hB (Nat.le_refl _)).from_ 1 (by omega))
    have HDR := Lib.hid (show A.drop 1 ≠ A ∧ (A.drop 1).length ≤ 600 from ⟨fun e => by have h1 := congrArg List.length e; rw [List.length_drop, HN.out] at h1; omega, by rw [List.length_drop, HN.out]; omega⟩)
    have hb1 := HU.out.bounds.2
    unfold fromV at HSF
    generalize hC : A.set p (A.getD p 0 ^^^ m) = C at HO5 HG5 HD5 HC
    generalize A.getD p 0 = y at *
    clear hC ho5 hsl HO4 HB4
    go_upto_region 9 with fail
    generalize w4.setCell ⟨g, p, none⟩ (.int .u8 (bv (y ^^^ m))) = w5 at *
    clear c0 f0
    by_cases hm : m = 0
    · have hC := HG5.out hm
      subst hC
      subst hm
      rw [show bv 0 = 0 from rfl]
      go_wp2_with (first
        | (go_at_call 43; with_reducible refine Calls.mono (HY.out _ _ _ (HU.out.below HB5.out (Nat.le_refl _)) HO5.out) ?_; rintro e w6 ⟨rfl, hb⟩; have HB6 := Lib.hid (HB5.out.trans (hb.mono HB5.out.size)); have HO6 := Lib.hid (HO5.out.below hb (Nat.le_refl _)); clear hb)
        | (go_at_call 43; with_reducible refine Calls.mono (HY.out _ _ _ HO6.out (HU.out.below HB6.out (Nat.le_refl _))) ?_; rintro e w7 ⟨rfl, hb⟩; have HB7 := Lib.hid (HB6.out.trans (hb.mono HB6.out.size)); clear hb)
        | (go_at_call 43; refine (HNO.out _ _ HDR.out.1 _ _ _ (HSF.out _ HB7.out) (HU.out.below HB7.out (Nat.le_refl _)) HDR.out.2).mono ?_; rintro e w8 ⟨rfl, hb⟩; have HB8 := Lib.hid (HB7.out.trans (hb.mono HB7.out.size)); clear hb)
        | (go_at_call 42; refine (HAW.out _ HB8.out).mono ?_; rintro e w9 ⟨rfl, hb⟩; have HB9 := Lib.hid (HB8.out.trans (hb.mono HB8.out.size)); clear hb))
      all_goals
        go_ret
        exact ⟨rfl, HB9.out⟩
    · have hne := HD5.out hm
      have HN1 := Lib.hid hne
      have HN2 := Lib.hid (Ne.symm hne)
      have hb0 : ¬ bv m = 0 := fun e => hm (bv_inj (e.trans (show (0 : Int) = bv 0 from rfl)))
      have hb2 : (bv m == 0) = false := by simpa using hb0
      clear hne hm
      go_wp2_with (first
        | (go_at_call 43; with_reducible refine Calls.mono (HNO.out _ _ HN2.out _ _ _ (HU.out.below HB5.out (Nat.le_refl _)) HO5.out HAL.out) ?_; rintro e w6 ⟨rfl, hb⟩; have HB6 := Lib.hid (HB5.out.trans (hb.mono HB5.out.size)); have HO6 := Lib.hid (HO5.out.below hb (Nat.le_refl _)); clear hb)
        | (go_at_call 43; with_reducible refine Calls.mono (HNO.out _ _ HN1.out _ _ _ HO6.out (HU.out.below HB6.out (Nat.le_refl _)) HC.out) ?_; rintro e w7 ⟨rfl, hb⟩; have HB7 := Lib.hid (HB6.out.trans (hb.mono HB6.out.size)); clear hb)
        | (go_at_call 43; refine (HNO.out _ _ HDR.out.1 _ _ _ (HSF.out _ HB7.out) (HU.out.below HB7.out (Nat.le_refl _)) HDR.out.2).mono ?_; rintro e w8 ⟨rfl, hb⟩; have HB8 := Lib.hid (HB7.out.trans (hb.mono HB7.out.size)); clear hb)
        | (go_at_call 42; refine (HAW.out _ HB8.out).mono ?_; rintro e w9 ⟨rfl, hb⟩; have HB9 := Lib.hid (HB8.out.trans (hb.mono HB8.out.size)); clear hb))
      all_goals
        go_ret
        exact ⟨rfl, HB9.out⟩
end Go.Proofs.YtnoilogepkelaaaDoor
