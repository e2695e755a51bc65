/-
  The law SlotsKnown: what its calls tell, in plain Lean; has a log just these texts?; Open of no disk.
-/
import Derived.Test.YtdnjjemdnlegdaaSloM
import Derived.Test.YtdnjjemdnlegdaaSloN
import Derived.Test.YtdnjjemdnlegdaaDl4
namespace Go.Proofs.Ytdnjjemdnlegdaa
set_option linter.unusedVariables false
set_option linter.unusedSimpArgs false
open Go Go.RowKit Go.Shelf
attribute [local go_sem] Oper.semAt_some
namespace Slo
open Dk
theorem append_full {d : D} {l : L} {t : List (BitVec 8)} (h1 : l.dead = false) (h2 : d.off = false) (h3 : t.length ≤ 262144) (h4 : l.sectors - l.used < taken t.length) : append d l t = (d, l, 7) := by
  unfold append
  rw [if_neg (by rw [h1, h2]; decide), if_neg (by omega), if_pos h4]
theorem append_dead {d : D} {l : L} {t : List (BitVec 8)} (h1 : l.dead = true) : append d l t = (d, l, 12) := by
  unfold append
  rw [if_pos (by rw [h1]; rfl)]
def ab : List (BitVec 8) := [97, 98]
def k3 : L := ⟨0, 3, [], 0, false⟩
def k4 : L := ⟨0, 4, [], 0, false⟩
def mask254 : List (BitVec 8) := 254 :: List.replicate 15 0
def long : List (BitVec 8) := (List.replicate 200 0).set 123 1
def a1 : D × L × Int := append (fresh 3) k3 ab
def a3 : D × L × Int := append a1.1 a1.2.1 (List.replicate 251 0)
def d4 : D := (putAt a3.1 0 [2]).1
def e1 : D := (cut (fresh 4) 3 mask254).1
def b1 : D × L × Int := append e1 k4 long
def e2 : D := restart b1.1
def b2 : D × L × Int := append e2 k4 ab
set_option maxRecDepth 100000 in
theorem kn1 : a1.2.2 = 0 ∧ a1.2.1.dead = false ∧ a1.1.off = false ∧ a1.2.1.sectors = 3 ∧ a1.2.1.used = 1 := by decide +kernel
set_option maxRecDepth 100000 in
theorem kn3 : a3.2.2 = 0 ∧ a3.2.1.dead = false ∧ a3.1.off = false ∧ a3.2.1.sectors = 3 ∧ a3.2.1.used = 3 ∧ room a3.2.1 = -1 := by decide +kernel
set_option maxRecDepth 100000 in
theorem kn4 : d4.off = false ∧ d4.b.length = 384 ∧ (parse 3 (region d4 0 3)).2 = false := by decide +kernel
set_option maxRecDepth 100000 in
theorem kn5 : b1.2.2 = 12 ∧ b1.2.1.dead = true := by decide +kernel
set_option maxRecDepth 100000 in
theorem kn6 : e2.off = false ∧ e2.b.length = 512 ∧ parse 4 (region e2 0 4) = ([], true) := by decide +kernel
set_option maxRecDepth 100000 in
theorem kn7 : b2.2.2 = 0 ∧ b2.1.off = false ∧ b2.1.b.length = 512 ∧ parse 4 (region b2.1 0 4) = ([ab], true) := by decide +kernel
theorem kn_full1 : append a1.1 a1.2.1 (List.replicate 252 0) = (a1.1, a1.2.1, 7) := by
  obtain ⟨_, h1, h2, h3, h4⟩ := kn1
  exact append_full h1 h2 (by rw [List.length_replicate]; decide) (by rw [h3, h4, List.length_replicate]; decide)
theorem kn_full3 : append a3.1 a3.2.1 [] = (a3.1, a3.2.1, 7) := by
  obtain ⟨_, h1, h2, h3, h4, _⟩ := kn3
  exact append_full h1 h2 (by decide) (by rw [h3, h4]; decide)
theorem kn_open4 : open_ d4 0 3 = (none, 9) := by
  obtain ⟨h1, h2, h3⟩ := kn4
  unfold open_
  rw [h2, if_neg (by omega), if_neg (by rw [h1]; simp)]
  simp only [show (3 : Int).toNat = 3 from rfl, show (0 : Int).toNat = 0 from rfl, h3]
  rfl
theorem kn_open6 : open_ e2 0 4 = (some k4, 0) := by
  obtain ⟨h1, h2, h3⟩ := kn6
  unfold open_
  rw [h2, if_neg (by omega), if_neg (by rw [h1]; simp)]
  simp only [show (4 : Int).toNat = 4 from rfl, show (0 : Int).toNat = 0 from rfl, h3]
  rfl
theorem kn_open7 : open_ b2.1 0 4 = (some ⟨0, 4, [ab], 1, false⟩, 0) := by
  obtain ⟨_, h1, h2, h3⟩ := kn7
  unfold open_
  rw [h2, if_neg (by omega), if_neg (by rw [h1]; simp)]
  simp only [show (4 : Int).toNat = 4 from rfl, show (0 : Int).toNat = 0 from rfl, h3]
  rfl
theorem kn_arg1 : open_ b2.1 3 2 = (none, 2) := by
  obtain ⟨_, h1, h2, h3⟩ := kn7
  unfold open_
  rw [h2, if_pos (by omega)]
theorem kn_arg2 : open_ b2.1 0 0 = (none, 2) := by
  obtain ⟨_, h1, h2, h3⟩ := kn7
  unfold open_
  rw [h2, if_pos (by omega)]
end Slo

set_option maxRecDepth 100000 in
set_option maxHeartbeats 4000000 in
/-- Open of no disk. -/
theorem open_nil9 (w : World) (fr n : Int) : Calls Try.prog 31 #[.pointer none, .int .i64 fr, .int .i64 n] w fun e w' => e = .returned (.tuple #[.pointer none, .int .i64 1]) ∧ Below w.heap.size w w' := by
  have HS := Lib.hid (fun W => no_sectors (w := W) (q := none) (.inl rfl))
  obtain ⟨W, hW, hBW, hWs, h6, h7⟩ := alloc2 w (.cells #[.pointer none] 49) (.cells #[.int .i64 0] 27)
  have HW := Lib.hid hW
  have c6 : W.cell? ⟨w.heap.size, 0, none⟩ = some (.pointer none) := cell_of_row _ _ 0 _ _ _ h6
  have c7 : W.cell? ⟨w.heap.size + 1, 0, none⟩ = some (.int .i64 0) := cell_of_row _ _ 0 _ _ _ h7
  have f6 : W.frozen? ⟨w.heap.size, 0, none⟩ = false := frozen_of_row _ _ 0 _ _ h6
  have f7 : W.frozen? ⟨w.heap.size + 1, 0, none⟩ = false := frozen_of_row _ _ 0 _ _ h7
  have HBW := Lib.hid hBW
  have HTO := Lib.hid (two_out hBW h6 h7 (Nat.le_refl _))
  clear hW hBW h6 h7
  refine (callsIn_wide (n := 3)).1 ?_
  refine callsIn_of_wp_marks Try.func31 rfl trivial ?_ rfl
  simp only [Try.ntmps31, List.size_toArray, List.length_cons, List.length_nil, Nat.reduceAdd, Nat.reduceSub, Array.replicate_succ, Array.replicate_zero, List.push_toArray, List.append_toArray, List.nil_append, List.cons_append]
  gi_wp2_with (refine ⟨trivial, ?_⟩; gi_at_call 27; rw [HW.out]; refine (callsIn_wide.2 (HS.out W)).mono ?_; rintro e w' ⟨rfl, rfl⟩)
  obtain ⟨r1, r2, r3⟩ := HTO.out (.pointer none) (.int .i64 1)
  exact ⟨.tuple #[.pointer none, .int .i64 1], by simp [results, Try.results31, go_sem, r1, r2], rfl, r3⟩

/-- The slice value v reads as a slice of texts. -/
def StrS (w : World) (v : Value) (ws : List (List (BitVec 8))) : Prop := ∃ a cap, v = .slice a ws.length cap ∧ ws.length ≤ cap ∧ ∀ j, j < ws.length → ∃ b off, a = some ⟨b, off, none⟩ ∧ b < w.heap.size ∧ w.cell? ⟨b, off + j, none⟩ = some (.string (strB (ws.getD j [])))
set_option maxRecDepth 100000 in
set_option maxHeartbeats 2000000 in
theorem is9_any {F : Nat → Prop} {w : World} {p g q : Nat} {d : Dk.D} {l : Slo.L} (h : DL F w p g q d l) (v : Value) (ws : List (List (BitVec 8))) (hv : StrS w v ws) (hws : ws.length ≤ 1000000) :
    Calls Try.prog 40 #[.pointer (some ⟨q, 0, none⟩), v] w fun e w' => e = .returned (.bool (decide (l.texts = ws))) ∧ Below w.heap.size w w' := by
  obtain ⟨b, cb, rfl, hb1, hb3⟩ := hv
  have hsm := h.small
  have HALL := Lib.hid h.all
  obtain ⟨m, hm⟩ : ∃ m, ws.length = m := ⟨_, rfl⟩
  obtain ⟨n, hn⟩ : ∃ n, l.texts.length = n := ⟨_, rfl⟩
  have HN := Lib.hid (And.intro hn hm)
  have HB := Lib.hid hb3
  rw [hm] at HB hws hb1 ⊢
  rw [hn] at hsm
  clear hb3 hn hm h
  go_enter Try.func40, Try.ntmps40
  go_upto_region 2 with (go_at_call 32; refine HALL.out.mono ?_; rintro e w1 ⟨vo, us, rfl, htx, hnew, hb⟩; have HX := Lib.hid htx.sls; have HW1 := Lib.hid hb; clear htx hnew hb)
  obtain ⟨a, ca, rfl, ha1, ha2, ha3⟩ := HX.out
  have HA := Lib.hid ha3
  rw [HN.out.1] at HA ha1 ⊢
  clear ha3
  by_cases hnm : n = m
  · subst hnm
    go_wp2
    go_loopw [6] (fun s wr => ∃ k : Nat, k ≤ n ∧ s = .int .i64 k ∧ Hid (l.texts.take k = ws.take k) ∧ Hid (Below w1.heap.size w1 wr)) (fun s _ => n - (intOf s).toNat)
    case atStart => exact ⟨0, by omega, rfl, Lib.hid rfl, Lib.hid (Below.refl _ _)⟩
    case round =>
      obtain ⟨k, hk, rfl, HT, HW⟩ := hrel
      by_cases hlt : k < n
      · obtain ⟨g1, o1, v1, rfl, l1, cc1, s1⟩ := HA.out k hlt
        obtain ⟨g2, o2, rfl, l2, cc2⟩ := HB.out k hlt
        have d1 := (HW.out.cell (p := ⟨g1, o1 + k, none⟩) l1).trans cc1
        have d2 := (HW.out.cell (p := ⟨g2, o2 + k, none⟩) (Nat.lt_of_lt_of_le l2 HW1.out.size)).trans ((HW1.out.cell (p := ⟨g2, o2 + k, none⟩) l2).trans cc2)
        have k1 := fun W (hW : Below w1.heap.size w1 W) => conv_any (s1.below hW (Nat.le_refl _))
        obtain ⟨a1, p1, e1⟩ := s1.len
        subst e1
        have kc1 := k1 wr.drew HW.out.drew
        obtain ⟨x, hx'⟩ : ∃ x, l.texts.getD k [] = x := ⟨_, rfl⟩
        obtain ⟨y, hy'⟩ : ∃ y, ws.getD k [] = y := ⟨_, rfl⟩
        rw [hx'] at kc1 d1
        rw [hy'] at d2
        have HXY := Lib.hid (And.intro hx' hy')
        clear k1 s1 cc1 cc2 hx' hy' HA HB
        by_cases he : x = y
        · subst he
          go_wp2
          go_region
          all_goals
            go_wp2
            refine ⟨⟨k + 1, by omega, by go_num, ?_, Lib.hid HW.out.drew⟩, by simp [intOf]; omega⟩
            exact Lib.hid (take_next (d := []) (by have := HN.out; omega) (by have := HN.out; omega) HT.out (by rw [HXY.out.1, HXY.out.2]))
        · have hsne : ((strB x).toList == (strB y).toList) = false := by rw [beq_str9, decide_eq_false he]
          have HNE := Lib.hid (show l.texts ≠ ws from ne_of_getD (d := []) (i := k) (by rw [HXY.out.1, HXY.out.2]; exact he))
          go_wp2
          go_region
          all_goals
            go_wp2
            go_ret
            exact ⟨by rw [decide_eq_false HNE.out]; rfl, HW1.out.trans (HW.out.drew.mono HW1.out.size)⟩
      · obtain rfl : k = n := by omega
        have HE := Lib.hid (show l.texts = ws from take_ne (by have := HN.out; omega) (by rw [HN.out.1]; exact HT.out))
        go_wp2
        go_ret
        exact ⟨by rw [decide_eq_true HE.out]; rfl, HW1.out.trans (HW.out.mono HW1.out.size)⟩
  · have HNE := Lib.hid (show l.texts ≠ ws from fun e => hnm (by have := HN.out; rw [← this.1, ← this.2, e]))
    have h1 : ¬ (n : Int) = m := by omega
    go_wp2
    go_ret
    exact ⟨by rw [decide_eq_false HNE.out]; rfl, HW1.out⟩
end Go.Proofs.Ytdnjjemdnlegdaa
