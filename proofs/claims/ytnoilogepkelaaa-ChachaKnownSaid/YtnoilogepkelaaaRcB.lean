/-
  The document's answer for chacha: round, Block.
-/
import Derived.Test.YtnoilogepkelaaaRcF
import Derived.Deep.WholeRow
import Derived.Deep.RegionHeld3
namespace Go.Proofs.Ytnoilogepkelaaa
set_option linter.unusedVariables false
set_option linter.unusedSimpArgs false
open Go Go.RowKit

set_option maxHeartbeats 1000000 in
theorem rround_any (v : Value) (xs : List (BitVec 32)) (w : World) (h : SlW w v xs) (hl : xs.length = 16) (p q r s : Nat) (hp : p < 4) (hq0 : 4 ≤ q) (hq : q < 8) (hr0 : 8 ≤ r) (hr : r < 12) (hs0 : 12 ≤ s) (hs : s < 16) :
    Calls Try.prog 22 #[v, .int .i64 p, .int .i64 q, .int .i64 r, .int .i64 s] w fun e w' => ∃ v', e = .returned v' ∧ OwnW 22 w.heap.size w' v' (Cha.qstep xs p q r s) ∧ Below w.heap.size w w' := by
  have HL := Lib.hid hl
  have HSL := Lib.hid h
  rcases h with ⟨_, rfl⟩ | ⟨b, off, cap, rfl, h1, h2, h3, h4⟩
  · simp at hl
  · rw [hl] at HSL ⊢
    have c0 := h4 p (by omega)
    have c1 := h4 q (by omega)
    have c2 := h4 r (by omega)
    have c3 := h4 s (by omega)
    have HCAP := Lib.hid (show 16 ≤ cap by omega)
    unfold wordV at c0 c1 c2 c3
    clear h4 h1 h2 hl
    have HQ := Lib.hid (show Cha.qstep xs p q r s = (((xs.set p (Cha.quarter ⟨xs.getD p 0, xs.getD q 0, xs.getD r 0, xs.getD s 0⟩).a).set q (Cha.quarter ⟨xs.getD p 0, xs.getD q 0, xs.getD r 0, xs.getD s 0⟩).b).set r (Cha.quarter ⟨xs.getD p 0, xs.getD q 0, xs.getD r 0, xs.getD s 0⟩).c).set s (Cha.quarter ⟨xs.getD p 0, xs.getD q 0, xs.getD r 0, xs.getD s 0⟩).d from rfl)
    generalize Cha.qstep xs p q r s = ys at HQ
    have HC := Lib.hid (rquarter_any ⟨xs.getD p 0, xs.getD q 0, xs.getD r 0, xs.getD s 0⟩)
    generalize xs.getD p 0 = x0 at c0 HQ HC
    generalize xs.getD q 0 = x1 at c1 HQ HC
    generalize xs.getD r 0 = x2 at c2 HQ HC
    generalize xs.getD s 0 = x3 at c3 HQ HC
    generalize Cha.quarter ⟨x0, x1, x2, x3⟩ = Q at HQ HC
    go_enter Try.func22, Try.ntmps22
    go_wp2_with (at_builtin; refine wpList_append_w rfl (.tmp 12) (.tmp 13) 57 22 rfl Try.underlying57 info_u32 w.heap.size _ _ (OwnW.nil _ _ _) rfl _ _ HSL.out rfl (by simp [HL.out]) (Nat.le_refl _) ?_; intro v' w1 ho hg hn'; obtain ⟨g, cap', rfl, hgb, hgl, hcap', hsl'⟩ := ho.form 16 (by simp [HL.out]) (by omega); have hb1 := (Below.refl w.heap.size w).grown hg (Nat.le_refl _) (fun k e => by simp [Value.ownBlock] at e))
    clear hn' hg
    rw [List.nil_append] at ho
    have HO := Lib.hid ho
    have o0 := ho.get_cell p (by rw [HL.out]; omega)
    have o1 := ho.get_cell q (by rw [HL.out]; omega)
    have o2 := ho.get_cell r (by rw [HL.out]; omega)
    have o3 := ho.get_cell s (by rw [HL.out]; omega)
    have f0 := ho.not_frozen p
    have f1 := ho.not_frozen q
    have f2 := ho.not_frozen r
    have f3 := ho.not_frozen s
    unfold wordV at o0 o1 o2 o3
    generalize xs.getD p 0 = y0 at o0
    generalize xs.getD q 0 = y1 at o1
    generalize xs.getD r 0 = y2 at o2
    generalize xs.getD s 0 = y3 at o3
    rw [← hb1.cell (p := ⟨b, off + p, none⟩) h3] at c0
    rw [← hb1.cell (p := ⟨b, off + q, none⟩) h3] at c1
    rw [← hb1.cell (p := ⟨b, off + r, none⟩) h3] at c2
    rw [← hb1.cell (p := ⟨b, off + s, none⟩) h3] at c3
    clear ho hsl'
    have n01 : ¬ p = q := by omega
    have n02 : ¬ p = r := by omega
    have n03 : ¬ p = s := by omega
    have n12 : ¬ q = r := by omega
    have n13 : ¬ q = s := by omega
    have n23 : ¬ r = s := by omega
    have i0 : (p : Int) < 16 := by omega
    have i1 : (q : Int) < 16 := by omega
    have i2 : (r : Int) < 16 := by omega
    have i3 : (s : Int) < 16 := by omega
    have hbg : ¬ b = g := by omega
    have hgb' : ¬ g = b := by omega
    go_cut [] (fun wx => OwnW 22 w.heap.size wx (.slice (some ⟨g, 0, none⟩) 16 cap') ys ∧ Below w.heap.size w wx)
    case first =>
      go_region_held3 (fun w' => w'.cell? ⟨b, off + p, none⟩ = some (.int .u32 (wv x0)) ∧ w'.cell? ⟨b, off + q, none⟩ = some (.int .u32 (wv x1)) ∧ w'.cell? ⟨b, off + r, none⟩ = some (.int .u32 (wv x2)) ∧ w'.cell? ⟨b, off + s, none⟩ = some (.int .u32 (wv x3)))
        (go_keep)
        (first | (go_at_call 11; refine (HC.out _).mono ?_; rintro e w2 ⟨rfl, rfl⟩))
      go_wp2_with fail
      go_meet
      rw [HQ.out]
      refine ⟨?_, ?_⟩
      · exact (((HO.out.set_cell p (by rw [HL.out]; omega) Q.a).set_cell q (by simp [HL.out]; omega) Q.b).set_cell r (by simp [HL.out]; omega) Q.c).set_cell s (by simp [HL.out]; omega) Q.d
      · repeat (first | with_reducible exact hb1 | with_reducible refine Below.drew ?_ | with_reducible refine Below.setCell ?_ hgb _)
    case rest =>
      obtain ⟨ho, hb⟩ := hcut
      go_wp2
      go_ret
      exact ⟨_, rfl, ho, hb⟩
end Go.Proofs.Ytnoilogepkelaaa
