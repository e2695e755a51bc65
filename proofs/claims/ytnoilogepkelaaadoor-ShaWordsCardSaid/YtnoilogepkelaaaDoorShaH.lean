/-
  sha.nibble and sha.Text: a digest's words.
-/
import Derived.Test.YtnoilogepkelaaaDoorShaP
import Derived.Test.YtnoilogepkelaaaDoorStr
import Derived.Test.YtnoilogepkelaaaDoorLibC
import Derived.Test.YtnoilogepkelaaaDoorInRow
import Derived.Deep.RegionHeld3
import Derived.Deep.AppendLies
import Derived.Deep.DeepCutAuto
namespace Go.Proofs.YtnoilogepkelaaaDoor
set_option linter.unusedVariables false
set_option linter.unusedSimpArgs false
open Go Go.RowKit
namespace Sha
/-- A digit. -/
def dg (n : Nat) : BitVec 8 := BitVec.ofNat 8 (if n < 10 then 48 + n else 87 + n)
/-- A byte's two digits. -/
def two (c : BitVec 8) : List (BitVec 8) := [dg (c.toNat / 16), dg (c.toNat % 16)]
def text (h : List (BitVec 8)) : List (BitVec 8) := h.flatMap two
theorem text_length (h : List (BitVec 8)) : (text h).length = 2 * h.length := by
  induction h with
  | nil => rfl
  | cons c h ih => simp only [text, List.flatMap_cons, List.length_append] at ih ⊢; rw [ih]; simp [two]; omega
theorem text_take (h : List (BitVec 8)) (i : Nat) (hi : i < h.length) : text (h.take (i + 1)) = text (h.take i) ++ two (h.getD i 0) := by
  rw [List.take_succ_eq_append_getElem hi, text, List.flatMap_append, text, List.getD, List.getElem?_eq_getElem hi]
  simp
/-- A digit's value. -/
def nib (n : Int) : Int := if 48 ≤ n ∧ n ≤ 57 then n - 48 else if 97 ≤ n ∧ n ≤ 102 then n - 87 else 16
end Sha
set_option maxRecDepth 100000 in
theorem idx_dig (k : Nat) (hk : k < 16) (W : World) : (Instr.index 9 (.string { data := #[48, 49, 50, 51, 52, 53, 54, 55, 56, 57, 97, 98, 99, 100, 101, 102] }) (.int .u8 (k : Int))).run Tryd.prog W = .ok (.int .u8 (bv (Sha.dg k))) W := by
  have : k = 0 ∨ k = 1 ∨ k = 2 ∨ k = 3 ∨ k = 4 ∨ k = 5 ∨ k = 6 ∨ k = 7 ∨ k = 8 ∨ k = 9 ∨ k = 10 ∨ k = 11 ∨ k = 12 ∨ k = 13 ∨ k = 14 ∨ k = 15 := by omega
  rcases this with rfl | rfl | rfl | rfl | rfl | rfl | rfl | rfl | rfl | rfl | rfl | rfl | rfl | rfl | rfl | rfl <;> rfl

set_option maxRecDepth 100000 in
theorem nibble_any (n : Nat) (hn : n < 256) (w : World) : Calls Tryd.prog 71 #[.int .u8 (n : Int)] w fun e w' => e = .returned (.int .u8 (Sha.nib n)) ∧ w' = w := by
  by_cases h1 : (48 : Int) ≤ n
  · by_cases h2 : (n : Int) ≤ 57
    · have e : Sha.nib n = n - 48 := by unfold Sha.nib; rw [if_pos ⟨h1, h2⟩]
      rw [e]
      go_enter Tryd.func71, Tryd.ntmps71
      go_wp2
      go_ret
      exact ⟨rfl, rfl⟩
    · by_cases h3 : (97 : Int) ≤ n
      · by_cases h4 : (n : Int) ≤ 102
        · have e : Sha.nib n = n - 97 + 10 := by unfold Sha.nib; rw [if_neg (by omega), if_pos ⟨h3, h4⟩]; omega
          rw [e]
          go_enter Tryd.func71, Tryd.ntmps71
          go_wp2
          go_ret
          exact ⟨rfl, rfl⟩
        · have e : Sha.nib n = 16 := by unfold Sha.nib; rw [if_neg (by omega), if_neg (by omega)]
          rw [e]
          go_enter Tryd.func71, Tryd.ntmps71
          go_wp2
          go_ret
          exact ⟨rfl, rfl⟩
      · have e : Sha.nib n = 16 := by unfold Sha.nib; rw [if_neg (by omega), if_neg (by omega)]
        rw [e]
        go_enter Tryd.func71, Tryd.ntmps71
        go_wp2
        go_ret
        exact ⟨rfl, rfl⟩
  · have e : Sha.nib n = 16 := by unfold Sha.nib; rw [if_neg (by omega), if_neg (by omega)]
    rw [e]
    go_enter Tryd.func71, Tryd.ntmps71
    go_wp2
    go_ret
    exact ⟨rfl, rfl⟩

theorem made_cap (n : Nat) (hn : n ≤ 1000000) (w : World) : (Instr.makeSlice 22 (.int .i64 0) (.int .i64 (n : Int))).run Tryd.prog w = .ok (.slice (some ⟨w.heap.size, 0, none⟩) 0 n) (w.alloc (.cells (bytes (List.replicate n 0)) 5)) := by
  obtain ⟨i, hi, hz, hsz, hby⟩ := info_parts info_u8
  have hm := run_makeSlice (P := Tryd.prog) w 22 5 i (.int .u8 0) Tryd.underlying22 hi hz .i64 .i64 0 (n : Int) (by omega) (by omega) (by rw [hsz]; omega) (by rw [hby]; omega) (by omega)
  rw [hsz, Int.toNat_natCast, Nat.mul_one] at hm
  have hc : madeCells (Value.int .u8 0).cells n = bytes (List.replicate n 0) := by
    have e0 : (Value.int .u8 0).cells = #[.int .u8 0] := rfl
    apply Array.ext_getElem?
    intro j
    by_cases hj : j < n
    · rw [bytes_get? _ j (by simpa using hj)]
      simp [madeCells, e0, hj, bv, Nat.mod_one]
    · rw [Array.getElem?_eq_none (by rw [size_madeCells]; omega), Array.getElem?_eq_none (by rw [bytes_size]; simp; omega)]
  rw [hc] at hm
  exact hm
theorem own_cap (w : World) (n : Nat) (hn : n ≤ 1000000) {base : Nat} (hb : base ≤ w.heap.size) : OwnB 5 base (w.alloc (.cells (bytes (List.replicate n 0)) 5)) (.slice (some ⟨w.heap.size, 0, none⟩) 0 n) [] :=
  ⟨rfl, .inr ⟨w.heap.size, n, _, rfl, hb, heap_alloc_new w _, Nat.zero_le _, by unfold maxLen; omega, by simp [bytes_size], by simp [bcells]⟩⟩

set_option maxRecDepth 100000 in
set_option maxHeartbeats 4000000 in
theorem text_any (h : List (BitVec 8)) (hh : h.length = 32) (w : World) :
    Calls Tryd.prog 36 #[.agg (bytes h)] w fun e w' => e = .returned (.string (strB (Sha.text h))) ∧ Below w.heap.size w w' := by
  have HIB := Lib.hid (show (Tryd.prog.info? 32).map (·.size) = some (bytes h).size by rw [bytes_size, hh]; kernel_rfl)
  have HIX := Lib.hid (fun (i : Nat) (hi : i < 32) => run_index_row (P := Tryd.prog) (T := 32) (E := 5) Tryd.underlying32 Tryd.underlying5 rfl (by kernel_rfl) (bytes h) (by rw [bytes_size]; exact hh) (i : Int) (by omega) (by omega))
  have HH := Lib.hid hh
  have HTK := Lib.hid (fun i hi => Sha.text_take h i hi)
  obtain ⟨iu, hu0, hu1, hu2, hu3⟩ := info_parts info_u8
  have HU := Lib.hid (And.intro hu0 (And.intro hu1 (And.intro hu2 hu3)))
  obtain ⟨bb, hbb⟩ : ∃ bb, bytes h = bb := ⟨_, rfl⟩
  rw [hbb] at HIX HIB ⊢
  have HBB := Lib.hid hbb
  clear hh hu0 hu1 hu2 hu3 hbb
  obtain ⟨X, hX, hBX, hXs, hX0⟩ := alloc1 w (.cells bb 32)
  have HX := Lib.hid hX
  have hmk := made_cap 64 (by omega) X
  have ho := own_cap X 64 (by omega) (Nat.le_refl _)
  obtain ⟨Y, hY, hBY, hYs, _⟩ := alloc1 X (.cells (bytes (List.replicate 64 0)) 5)
  rw [hY] at hmk ho
  have hmk' : (Instr.makeSlice 22 (.int .i64 0) (.int .i64 64)).run Tryd.prog (w.alloc (.cells bb 32)) = .ok (.slice (some ⟨X.heap.size, 0, none⟩) 0 64) Y := by rw [hX]; exact hmk
  have HB := Lib.hid (hBX.trans (hBY.mono (by omega)))
  have ho' := OwnB.mono (base' := w.heap.size + 1) ho (by omega)
  rw [hXs] at ho'
  have HO : Hid (OwnB 5 (w.heap.size + 1) Y (.slice (some ⟨w.heap.size + 1, 0, none⟩) 0 64) (Sha.text (h.take 0))) := ho'
  clear ho'
  have hbk := (hBY.block w.heap.size (by omega)).trans hX0
  have HBK := Lib.hid hbk
  clear hX hBX hmk ho hY hBY hbk hX0
  go_enter Tryd.func36, Tryd.ntmps36
  go_upto_region 3 with (refine wpList_load_row rfl 32 (.tmp 1) rfl w.heap.size rfl _ _ _ _ HBK.out Tryd.underlying32 rfl HIB.out ?_)
  clear hmk' HBK HIB
  have HS0 := Lib.hid (show w.heap.size + 1 ≤ Y.heap.size by omega)
  clear hXs hYs
  go_loopw [3, 8] (fun v s wr => ∃ i : Nat, i ≤ 32 ∧ s = .int .i64 i ∧ Hid (OwnB 5 (w.heap.size + 1) wr v (Sha.text (h.take i))) ∧ Hid (Below w.heap.size w wr) ∧ Hid (w.heap.size + 1 ≤ wr.heap.size)) (fun _ s _ => 32 - (intOf s).toNat)
  case atStart => exact ⟨0, by omega, rfl, HO, HB, HS0⟩
  case round =>
    clear HO HB HS0
    obtain ⟨i, hi, rfl, HO, HB, HS⟩ := hrel
    by_cases hlt : i < 32
    · have hx := fun (W : World) => HIX.out i hlt W
      rw [← HBB.out, Int.toNat_natCast, Array.getD_eq_getD_getElem?, bytes_get? h i (by rw [HH.out]; exact hlt), Option.getD_some, HBB.out] at hx
      have htk := HTK.out i (by rw [HH.out]; exact hlt)
      have htl := Sha.text_length (h.take i)
      rw [List.length_take, HH.out, Nat.min_eq_left hi] at htl
      have HTL := Lib.hid htl
      generalize h.getD i 0 = c at hx htk
      have hcl := c.isLt
      obtain ⟨n, hn⟩ : ∃ n, c.toNat = n := ⟨_, rfl⟩
      have hb : bv c = (n : Int) := by rw [← hn]; rfl
      rw [hb] at hx
      rw [hn] at hcl
      obtain ⟨q, hq⟩ : ∃ q, n / 16 = q := ⟨_, rfl⟩
      obtain ⟨r, hr⟩ : ∃ r, n % 16 = r := ⟨_, rfl⟩
      rw [Sha.two, hn, hq, hr] at htk
      have HTKN := Lib.hid htk
      have hq1 : (n : Int) / 16 = q := by omega
      have hr1 : (n : Int) % 16 = r := by omega
      have hq2 : (n : Int).tdiv 16 = q := by rw [Int.tdiv_eq_ediv_of_nonneg (by omega)]; exact hq1
      have hr2 : (n : Int).tmod 16 = r := by rw [Int.tmod_eq_emod_of_nonneg (by omega)]; exact hr1
      have hql : q < 16 := by omega
      have hrl : r < 16 := by omega
      have hiq := fun (W : World) => idx_dig q hql W
      have hir := fun (W : World) => idx_dig r hrl W
      have HOA := Lib.hid (OwnB.alloc (show OwnB 5 (w.heap.size + 1) wr.drew u3 (Sha.text (h.take i)) from HO.out) (.cells #[.int .u8 (bv (Sha.dg q)), .int .u8 (bv (Sha.dg r))] 5))
      have HSZ := HS
      clear htk htl hb hn hq hr hcl
      go_upto_region 5 with fail
      -- TEXT BEGIN
      refine wp_region_held_drew (S := fun w' => True) (by kernel_rfl) trivial (fun hHeld => ?_)
      refine wpAnyH_take (i := 0) (v := ?v1) rfl (by kernel_rfl) (by kernel_rfl) (by kernel_rfl) (fun _ _ _ h => h) (Or.inl ⟨by rfl, ?y1⟩) (by assumption) ?r1
      case y1 =>
        intro w' hSw
        go_split_ands
        go_simp
        try with_reducible rfl
      try simp only [List.getElem_toArray, List.getElem_cons_zero, List.getElem_cons_succ, Act.put, List.setIfInBounds_toArray, List.set_cons_zero, List.set_cons_succ]
      refine wpAnyH_take (i := 1) (v := ?v2) rfl (by kernel_rfl) (by kernel_rfl) (by kernel_rfl) (fun _ _ _ h => h) (Or.inl ⟨by rfl, ?y2⟩) (by assumption) ?r2
      case y2 =>
        intro w' hSw
        go_split_ands
        go_simp
        try with_reducible rfl
      try simp only [List.getElem_toArray, List.getElem_cons_zero, List.getElem_cons_succ, Act.put, List.setIfInBounds_toArray, List.set_cons_zero, List.set_cons_succ]
      refine wpAnyH_take (i := 2) (v := ?v3) rfl (by kernel_rfl) (by kernel_rfl) (by kernel_rfl) (fun _ _ _ h => h) (Or.inl ⟨by rfl, ?y3⟩) (by assumption) ?r3
      case y3 =>
        intro w' hSw
        go_split_ands
        go_simp
        try with_reducible rfl
      try simp only [List.getElem_toArray, List.getElem_cons_zero, List.getElem_cons_succ, Act.put, List.setIfInBounds_toArray, List.set_cons_zero, List.set_cons_succ]
      refine wpAnyH_take (i := 3) (v := .int .u8 (bv (Sha.dg q))) rfl (by kernel_rfl) (by kernel_rfl) (by kernel_rfl) (fun _ _ _ h => h) (Or.inl ⟨by rfl, ?y4⟩) (by assumption) ?r4
      case y4 =>
        intro w' hSw
        have h16 : q = 0 ∨ q = 1 ∨ q = 2 ∨ q = 3 ∨ q = 4 ∨ q = 5 ∨ q = 6 ∨ q = 7 ∨ q = 8 ∨ q = 9 ∨ q = 10 ∨ q = 11 ∨ q = 12 ∨ q = 13 ∨ q = 14 ∨ q = 15 := by omega
        clear hHeld hiq hir HOA HO HB HS HTKN HTL hx
        rcases h16 with rfl | rfl | rfl | rfl | rfl | rfl | rfl | rfl | rfl | rfl | rfl | rfl | rfl | rfl | rfl | rfl <;> rfl
      try simp only [List.getElem_toArray, List.getElem_cons_zero, List.getElem_cons_succ, Act.put, List.setIfInBounds_toArray, List.set_cons_zero, List.set_cons_succ]
      refine wpAnyH_take (i := 4) (v := ?v5) rfl (by kernel_rfl) (by kernel_rfl) (by kernel_rfl) (fun _ _ _ h => h) (Or.inl ⟨by rfl, ?y5⟩) (by assumption) ?r5
      case y5 =>
        intro w' hSw
        go_split_ands
        go_simp
        try with_reducible rfl
      try simp only [List.getElem_toArray, List.getElem_cons_zero, List.getElem_cons_succ, Act.put, List.setIfInBounds_toArray, List.set_cons_zero, List.set_cons_succ]
      refine wpAnyH_take (i := 5) (v := ?v6) rfl (by kernel_rfl) (by kernel_rfl) (by kernel_rfl) (fun _ _ _ h => h) (Or.inl ⟨by rfl, ?y6⟩) (by assumption) ?r6
      case y6 =>
        intro w' hSw
        go_split_ands
        go_simp
        try with_reducible rfl
      try simp only [List.getElem_toArray, List.getElem_cons_zero, List.getElem_cons_succ, Act.put, List.setIfInBounds_toArray, List.set_cons_zero, List.set_cons_succ]
      refine wpAnyH_take (i := 6) (v := .int .u8 (bv (Sha.dg r))) rfl (by kernel_rfl) (by kernel_rfl) (by kernel_rfl) (fun _ _ _ h => h) (Or.inl ⟨by rfl, ?y7⟩) (by assumption) ?r7
      case y7 =>
        intro w' hSw
        have h16 : r = 0 ∨ r = 1 ∨ r = 2 ∨ r = 3 ∨ r = 4 ∨ r = 5 ∨ r = 6 ∨ r = 7 ∨ r = 8 ∨ r = 9 ∨ r = 10 ∨ r = 11 ∨ r = 12 ∨ r = 13 ∨ r = 14 ∨ r = 15 := by omega
        clear hHeld hiq hir HOA HO HB HS HTKN HTL hx
        rcases h16 with rfl | rfl | rfl | rfl | rfl | rfl | rfl | rfl | rfl | rfl | rfl | rfl | rfl | rfl | rfl | rfl <;> rfl
      try simp only [List.getElem_toArray, List.getElem_cons_zero, List.getElem_cons_succ, Act.put, List.setIfInBounds_toArray, List.set_cons_zero, List.set_cons_succ]
      refine wpAnyH_ready (rs := [7]) (by kernel_rfl) (by simp) ?_
      refine AllReadyH.cons (i := 7) rfl (fun K hK => ?_) AllReadyH.nil
      go_simp
      refine hK.out _ _ (trivial) (fun hHeld' => ?_)
      clear hHeld hK K
      have hHeld := hHeld'
      clear hHeld'
      try simp only [List.getElem_toArray, List.getElem_cons_zero, List.getElem_cons_succ, Act.put, List.setIfInBounds_toArray, List.set_cons_zero, List.set_cons_succ]
      refine wpAnyH_ready (rs := [8]) (by kernel_rfl) (by simp) ?_
      refine AllReadyH.cons (i := 8) rfl (fun K hK => ?_) AllReadyH.nil
      refine step_append_lies _ rfl (.tmp 11) (.tmp 18) 22 rfl (w.heap.size + 1) 5 _ (.int .u8 0) 1 1 Tryd.underlying22 HU.out.1 HU.out.2.1 HU.out.2.2.1 HU.out.2.2.2 rfl (by decide) u3 _ _ rfl HOA.out ⟨wr.heap.size, 0, none⟩ 2 2 [.int .u8 (bv (Sha.dg q)), .int .u8 (bv (Sha.dg r))] rfl rfl (World.news_of_block (heap_alloc_new wr.drew _)) (by simp [Value.oneCell']) (by decide) (by rw [HTL.out]; unfold maxLen; omega) (by rw [HTL.out]; omega) (Nat.le_trans HSZ.out (((Below.refl _ wr).drew.alloc (Nat.le_refl _) _).size)) _ rfl ?_
      intro g' cap' w2 ho2 hg2 hat2 hlt2
      have HO2 : Hid (OwnB 5 (w.heap.size + 1) w2 (.slice (some ⟨g', 0, none⟩) ((Sha.text (h.take i)).length + 2) cap') (Sha.text (h.take (i + 1)))) := by
        refine Lib.hid ?_
        rw [HTKN.out]
        simpa [OwnB, bcells_append, bcells, byteV] using ho2
      have HB2 := Lib.hid ((HB.out.drew.alloc (show w.heap.size ≤ wr.drew.heap.size from Nat.le_of_succ_le HSZ.out) (.cells #[.int .u8 (bv (Sha.dg q)), .int .u8 (bv (Sha.dg r))] 5)).grown hg2 (Nat.le_trans (Nat.le_of_succ_le HSZ.out) (((Below.refl _ wr).drew.alloc (Nat.le_refl _) _).size)) (fun k hk => Nat.le_of_succ_le (World.ownsRow.lt HO.out k hk).1))
      have HS2 := Lib.hid (Nat.le_trans (Nat.le_trans HSZ.out (((Below.refl _ wr).drew.alloc (Nat.le_refl _) (.cells #[.int .u8 (bv (Sha.dg q)), .int .u8 (bv (Sha.dg r))] 5)).size)) hg2.size)
      clear ho2 hg2 hat2 hlt2
      refine hK.out _ _ (trivial) (fun hHeld' => ?_)
      clear hHeld hK K
      have hHeld := hHeld'
      clear hHeld'
      try simp only [List.getElem_toArray, List.getElem_cons_zero, List.getElem_cons_succ, Act.put, List.setIfInBounds_toArray, List.set_cons_zero, List.set_cons_succ]
      refine wpAnyH_take (i := 9) (v := ?v8) rfl (by kernel_rfl) (by kernel_rfl) (by kernel_rfl) (fun _ _ _ h => h) (Or.inl ⟨by rfl, ?y8⟩) (by assumption) ?r8
      case y8 =>
        intro w' hSw
        go_split_ands
        go_simp
        try with_reducible rfl
      try simp only [List.getElem_toArray, List.getElem_cons_zero, List.getElem_cons_succ, Act.put, List.setIfInBounds_toArray, List.set_cons_zero, List.set_cons_succ]
      refine wpAnyH_done (by kernel_rfl) ?_ _
      -- TEXT END
      go_wp2
      exact ⟨⟨i + 1, by omega, by go_num, HO2, HB2, HS2⟩, by simp [intOf]; omega⟩
    · obtain rfl : i = 32 := by omega
      rw [List.take_of_length_le (by rw [HH.out]; omega)] at HO
      have hcv := conv_any HO.out.sl
      go_wp2
      go_ret
      exact ⟨rfl, HB.out⟩
end Go.Proofs.YtnoilogepkelaaaDoor
