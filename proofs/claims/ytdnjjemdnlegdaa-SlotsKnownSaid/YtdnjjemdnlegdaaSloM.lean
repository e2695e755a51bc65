/-
  Two lists of texts: are they the same?
-/
import Derived.Test.YtdnjjemdnlegdaaSloL
import Derived.Test.YtdnjjemdnlegdaaSlS
namespace Go.Proofs.Ytdnjjemdnlegdaa
set_option linter.unusedVariables false
set_option linter.unusedSimpArgs false
open Go Go.RowKit

theorem Tx.sls {w : World} {v : Value} {ts : List (List (BitVec 8))} {vs : List Value} {l : List Nat} (h : Tx w v ts vs l) : SlS w v ts := by
  have hl := h.len
  rcases h.own.sl with ⟨rfl, hvs⟩ | ⟨b, off, cap, rfl, h1, h2, h3, h4⟩
  · have h0 : ts = [] := List.eq_nil_of_length_eq_zero (by rw [← hl, hvs]; rfl)
    subst h0
    exact ⟨none, 0, rfl, Nat.le_refl _, by unfold maxLen; omega, fun j hj => absurd hj (Nat.not_lt_zero _)⟩
  · rw [hl] at h1 h4 ⊢
    refine ⟨some ⟨b, off, none⟩, cap, rfl, h1, h2, fun j hj => ⟨b, off, vs.getD j undef, rfl, h3, ?_, h.txt j hj⟩⟩
    have := h4 j hj
    simpa [List.getD] using this
theorem beq_str9 (a b : List (BitVec 8)) : ((strB a).toList == (strB b).toList) = decide (a = b) := by
  by_cases h : a = b
  · subst h
    simp
  · rw [decide_eq_false h, beq_eq_false_iff_ne]
    exact fun e => h (strB_inj (by rw [ByteArray.toList_eq, ByteArray.toList_eq] at e; exact ByteArray.ext (Array.toList_inj.1 e)))
theorem take_ne {α : Type} {xs ys : List α} (hl : xs.length = ys.length) (h : xs.take xs.length = ys.take xs.length) : xs = ys := by
  rw [List.take_length] at h
  rw [h, hl, List.take_length]
theorem take_next {α : Type} {d : α} {xs ys : List α} {i : Nat} (h1 : i < xs.length) (h2 : i < ys.length) (h : xs.take i = ys.take i) (he : xs.getD i d = ys.getD i d) : xs.take (i + 1) = ys.take (i + 1) := by
  rw [List.take_succ_eq_append_getElem h1, List.take_succ_eq_append_getElem h2, h]
  congr 2
  simpa [List.getD, List.getElem?_eq_getElem h1, List.getElem?_eq_getElem h2] using he
theorem ne_of_getD {α : Type} {d : α} {xs ys : List α} {i : Nat} (h : xs.getD i d ≠ ys.getD i d) : xs ≠ ys := fun e => h (by rw [e])

set_option maxRecDepth 100000 in
set_option maxHeartbeats 2000000 in
theorem same9_any (xs ys : List (List (BitVec 8))) (u v : Value) (w : World) (hu : SlS w u xs) (hv : SlS w v ys) (hx : xs.length ≤ 1000000) (hy : ys.length ≤ 1000000) :
    Calls Try.prog 33 #[u, v] w fun e w' => e = .returned (.bool (decide (xs = ys))) ∧ Below w.heap.size w w' := by
  obtain ⟨a, ca, rfl, ha1, ha2, ha3⟩ := hu
  obtain ⟨b, cb, rfl, hb1, hb2, hb3⟩ := hv
  obtain ⟨n, hn⟩ : ∃ n, xs.length = n := ⟨_, rfl⟩
  obtain ⟨m, hm⟩ : ∃ m, ys.length = m := ⟨_, rfl⟩
  have HA := Lib.hid ha3
  have HB := Lib.hid hb3
  have HN := Lib.hid (And.intro hn hm)
  rw [hn] at HA hx ha1 ⊢
  rw [hm] at HB hy hb1 ⊢
  clear ha3 hb3 hn hm
  by_cases hnm : n = m
  · subst hnm
    go_enter Try.func33, Try.ntmps33
    go_wp2
    go_loopw [5] (fun s wr => ∃ k : Nat, k ≤ n ∧ s = .int .i64 k ∧ Hid (xs.take k = ys.take k) ∧ Hid (Below w.heap.size w wr)) (fun s _ => n - (intOf s).toNat)
    case atStart => exact ⟨0, by omega, rfl, Lib.hid rfl, Lib.hid (Below.refl _ _)⟩
    case round =>
      obtain ⟨k, hk, rfl, HT, HW⟩ := hrel
      by_cases hlt : k < n
      · obtain ⟨g1, o1, v1, rfl, l1, cc1, s1⟩ := HA.out k hlt
        obtain ⟨g2, o2, v2, rfl, l2, cc2, s2⟩ := HB.out k hlt
        have d1 := (HW.out.cell (p := ⟨g1, o1 + k, none⟩) l1).trans cc1
        have d2 := (HW.out.cell (p := ⟨g2, o2 + k, none⟩) l2).trans cc2
        have k1 := fun W (hW : Below w.heap.size w W) => conv_any (s1.below hW (Nat.le_refl _))
        have k2 := fun W (hW : Below w.heap.size w W) => conv_any (s2.below hW (Nat.le_refl _))
        obtain ⟨a1, p1, e1⟩ := s1.len
        obtain ⟨a2, p2, e2⟩ := s2.len
        subst e1
        subst e2
        have kc1 := k1 wr.drew HW.out.drew
        have kc2 := k2 wr.drew HW.out.drew
        obtain ⟨x, hx'⟩ : ∃ x, xs.getD k [] = x := ⟨_, rfl⟩
        obtain ⟨y, hy'⟩ : ∃ y, ys.getD k [] = y := ⟨_, rfl⟩
        rw [hx'] at kc1 d1
        rw [hy'] at kc2 d2
        have HXY := Lib.hid (And.intro hx' hy')
        clear k1 k2 s1 s2 cc1 cc2 hx' hy' HA HB
        by_cases he : x = y
        · subst he
          go_wp2
          go_region
          all_goals
            go_wp2
            refine ⟨⟨k + 1, by omega, by go_num, ?_, Lib.hid HW.out.drew⟩, by simp [intOf]; omega⟩
            exact Lib.hid (take_next (d := []) (by have := HN.out; omega) (by have := HN.out; omega) HT.out (by rw [HXY.out.1, HXY.out.2]))
        · have hsne : ((strB x).toList == (strB y).toList) = false := by rw [beq_str9, decide_eq_false he]
          have HNE := Lib.hid (show xs ≠ ys from ne_of_getD (d := []) (i := k) (by rw [HXY.out.1, HXY.out.2]; exact he))
          go_wp2
          go_region
          all_goals
            go_wp2
            go_ret
            exact ⟨by rw [decide_eq_false HNE.out]; rfl, HW.out.drew⟩
      · obtain rfl : k = n := by omega
        have HE := Lib.hid (show xs = ys from take_ne (by have := HN.out; omega) (by rw [HN.out.1]; exact HT.out))
        go_wp2
        go_ret
        exact ⟨by rw [decide_eq_true HE.out]; rfl, HW.out⟩
  · have HNE := Lib.hid (show xs ≠ ys from fun e => hnm (by have := HN.out; rw [← this.1, ← this.2, e]))
    have h1 : ¬ (n : Int) = m := by omega
    go_enter Try.func33, Try.ntmps33
    go_wp2
    go_ret
    exact ⟨by rw [decide_eq_false HNE.out]; rfl, Below.refl _ _⟩
end Go.Proofs.Ytdnjjemdnlegdaa
