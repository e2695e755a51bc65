/-
  The law HmacPads: its walk.
-/
import Derived.Test.YtnoilogepkelaaaDoorHmaD
namespace Go.Proofs.YtnoilogepkelaaaDoor
set_option linter.unusedVariables false
set_option linter.unusedSimpArgs false
open Go Go.RowKit
/-- bytes behind a new, empty slice. -/
theorem own_none' (w : World) : OwnB 5 w.heap.size (w.alloc (.cells #[] 5)) (.slice (some ⟨w.heap.size, 0, none⟩) 0 0) [] := World.ownsRow_made w #[] 0 (Nat.le_refl _) (by decide) rfl
theorem one_new' {E : TypeId} (w : World) (n : Int) (x : BitVec 8) (h : n = bv x) : SlB (w.alloc (.cells #[.int .u8 n] E)) (.slice (some ⟨w.heap.size, 0, none⟩) 1 1) [x] := by
  subst h
  exact SlB.block (heapA_new w _ _ rfl) 0 1 [x] (by simp) (by decide) (fun j hj => by
    have : j = 0 := by simp at hj; omega
    subst this
    rfl)

theorem Hma.tag_pad (key text : List (BitVec 8)) (n : Nat) (h : key.length + n ≤ 64) : Hma.tag (key ++ List.replicate n 0) text = Hma.tag key text := by
  unfold Hma.tag
  rw [Hma.kblock_pad _ _ h]

set_option maxRecDepth 100000 in
set_option maxHeartbeats 4000000 in
theorem law_hmacPads {w : World} (v0 : Value) (key0 : List (BitVec 8)) (h0 : SlB w v0 key0) (v1 : Value) (text0 : List (BitVec 8)) (h1 : SlB w v1 text0) (m : BitVec 8) (hG : Glob w) :
    Calls Tryd.prog 11 #[v0, v1, .int .u8 (bv m)] w fun e w' => e = .returned (.bool true) ∧ Below w.heap.size w w' := by
  obtain ⟨a0, cap0, rfl⟩ := h0.len
  have hb0 := h0.bounds.2
  have hgz := hG.size
  have HCU := Lib.hid (cut_any text0 v1 w h1)
  obtain ⟨text, htx⟩ : ∃ text, text0.take 600 = text := ⟨_, rfl⟩
  have htl : text.length ≤ 600 := by rw [← htx, List.length_take]; omega
  obtain ⟨key, hky⟩ : ∃ key, key0.take 64 = key := ⟨_, rfl⟩
  have hkl : key.length = min key0.length 64 := by rw [← hky, List.length_take]; omega
  have hs0 : SlB w (.slice a0 key.length cap0) key := by rw [hkl, ← hky, Nat.min_comm]; exact (by
    by_cases h : key0.length ≤ 64
    · rw [Nat.min_eq_right h, List.take_of_length_le h]; exact h0
    · rw [Nat.min_eq_left (by omega)]; exact h0.upTo 64 (by omega))
  rw [htx] at HCU
  have HAW := Lib.hid (fun W (hB : Below w.heap.size w W) => hworks_any W (hG.below hB hgz))
  have HM1 := Lib.hid (fun u W (h : SlB W u text) (hB : Below w.heap.size w W) => hmac_any key text _ u W (hs0.below hB (Nat.le_refl _)) h (by omega) (by omega) (hG.below hB hgz))
  have HM2 := Lib.hid (fun v u r W (hv : SlB W v (key ++ List.replicate r 0)) (h : SlB W u text) (hB : Below w.heap.size w W) (hr : key.length + r ≤ 64) => hmac_any (key ++ List.replicate r 0) text v u W hv h (by rw [List.length_append, List.length_replicate]; omega) (by omega) (hG.below hB hgz))
  have HPD := Lib.hid (fun r (hr : key.length + r ≤ 64) => Hma.tag_pad key text r hr)
  have HEQ := Lib.hid (fun W => run_eql_hash (n := 32) Tryd.underlying32 (by kernel_rfl) (Hma.tag key text) (Hma.tag_length _ _) W)
  have HS0 := Lib.hid hs0
  have hm0 := bv_nonneg m
  have hm1 := bv_lt m
  obtain ⟨T, hT⟩ : ∃ T, bytes (Hma.tag key text) = T := ⟨_, rfl⟩
  rw [hT] at HEQ HM1
  have HT := Lib.hid hT
  have HKY := Lib.hid (show key.length ≤ 64 by omega)
  generalize bv m = mm at *
  have hc : key0.length ≤ 64 ∧ key.length = key0.length ∨ 64 < key0.length ∧ key.length = 64 := by omega
  obtain ⟨kl, hkl2⟩ : ∃ kl, key.length = kl := ⟨_, rfl⟩
  have HKL := Lib.hid hkl2
  rw [hkl2] at HS0 HM1 hc HM2 HPD HKY
  generalize key0.length = n0 at *
  clear h0 h1 hG htx hky hkl hs0 htl hT hkl2
  rcases hc with ⟨hc, hk⟩ | ⟨hc, hk⟩
  all_goals
    have HK := Lib.hid hk
    subst hk
    go_enter Tryd.func11, Tryd.ntmps11
    go_upto_region 4 with (first
      | (go_at_call 40; refine HCU.out.mono ?_; rintro e w' ⟨u1, rfl, hu, rfl⟩; have HU := Lib.hid hu; clear hu)
      | (at_builtin; refine wpList_append_b rfl (.tmp 16) (.tmp 17) 22 5 rfl Tryd.underlying22 info_u8 w.heap.size (.slice (some ⟨w.heap.size, 0, none⟩) 0 0) [] (own_none' w) rfl _ key (HS0.out.alloc _) rfl (by have := HKL.out; have := HKY.out; simp; omega) (by simp) ?_; intro v2 w1 ho hg hn'; have HO1 := Lib.hid ho; have HB1 := Lib.hid (((Below.refl _ w).alloc (Nat.le_refl _) _).grown hg (by simp) (fun k e => by simp only [Value.ownBlock, Option.some.injEq] at e; omega)); clear ho hg hn'))
    rw [List.nil_append] at HO1
    go_wp2
    go_loopw [7, 8] (fun s7 s8 wr => ∃ i r : Nat, i ≤ 256 ∧ s8 = .int .i64 i ∧ key.length + r ≤ 64 ∧ Hid (OwnB 5 w.heap.size wr s7 (key ++ List.replicate r 0)) ∧ Hid (Below w.heap.size w wr)) (fun _ s8 _ => 300 - (intOf s8).toNat)
    case atStart => exact ⟨0, 0, by omega, rfl, by rw [HKL.out]; exact HKY.out, by rw [List.replicate_zero, List.append_nil]; exact HO1, HB1⟩
    case round =>
      clear HO1 HB1
      obtain ⟨i, r, hi, rfl, hr, HO, HB⟩ := hrel
      have hlen : (key ++ List.replicate r (0 : BitVec 8)).length = key.length + r := by rw [List.length_append, List.length_replicate]
      have hsl := HO.out.sl
      obtain ⟨a7, cap7, rfl⟩ := hsl.len
      rw [hlen] at HO hsl ⊢
      obtain ⟨N, hN⟩ : ∃ N, key.length + r = N := ⟨_, rfl⟩
      rw [hN] at hr HO hsl ⊢
      have HNL := Lib.hid (And.intro hN hlen)
      have hsz := HB.out.size
      clear hN hlen
      by_cases hlt : (i : Int) < mm
      · by_cases hl2 : (N : Int) < 64
        · clear hsl
          go_wp2_with (at_builtin; refine wpList_append_b rfl (.tmp 30) (.tmp 31) 22 5 rfl Tryd.underlying22 info_u8 w.heap.size _ _ (HO.out.alloc _) rfl _ [0] (one_new' _ _ _ rfl) rfl (by rw [HNL.out.2]; simp; have := HNL.out.1; omega) (by simp; omega) ?_; intro v3 w3 ho hg hn'; have HO3 := Lib.hid ho; have HG3 := Lib.hid hg; clear ho hg hn')
          have hb3 := (HB.out.alloc hsz _).grown HG3.out (by simp; omega) (fun k e => (World.ownsRow.lt HO.out k e).1)
          exact ⟨⟨i + 1, r + 1, by omega, by go_num, by have := HNL.out.1; omega, by rw [List.replicate_succ', ← List.append_assoc]; exact HO3, Lib.hid hb3⟩, by simp [intOf]; omega⟩
        · have h2 : decide ((N : Int) < 64) = false := by simp; omega
          have HSL := Lib.hid hsl
          have hq1 := fun x y W => (HEQ.out W).1 x y
          have hq2 := fun W => (HEQ.out W).2
          clear hsl
          go_wp2_with (first
            | (go_at_call 41; with_reducible refine Calls.mono (HM1.out _ _ (HU.out.below HB.out (Nat.le_refl _)) HB.out) ?_; rintro e w5 ⟨rfl, hb⟩; have HB5 := Lib.hid (HB.out.trans (hb.mono hsz)); have HSL5 := Lib.hid (HSL.out.below hb (Nat.le_refl _)); clear hb)
            | (go_at_call 41; with_reducible refine Calls.mono (HM2.out _ _ r _ HSL5.out (HU.out.below HB5.out (Nat.le_refl _)) HB5.out (by have := HNL.out.1; have := HKL.out; omega)) ?_; rw [HPD.out r (by have := HNL.out.1; have := HKL.out; omega), HT.out]; rintro e w6 ⟨rfl, hb⟩; have HB6 := Lib.hid (HB5.out.trans (hb.mono HB5.out.size)); clear hb)
            | (go_at_call 42; refine (HAW.out _ HB6.out).mono ?_; rintro e w7 ⟨rfl, hb⟩; have HB7 := Lib.hid (HB6.out.trans (hb.mono HB6.out.size)); clear hb))
          go_ret
          exact ⟨rfl, HB7.out⟩
      · have h2 : decide ((i : Int) < mm) = false := by simp; omega
        have HSL := Lib.hid hsl
        have hq1 := fun x y W => (HEQ.out W).1 x y
        have hq2 := fun W => (HEQ.out W).2
        clear hsl
        go_wp2_with (first
          | (go_at_call 41; with_reducible refine Calls.mono (HM1.out _ _ (HU.out.below HB.out (Nat.le_refl _)) HB.out) ?_; rintro e w5 ⟨rfl, hb⟩; have HB5 := Lib.hid (HB.out.trans (hb.mono hsz)); have HSL5 := Lib.hid (HSL.out.below hb (Nat.le_refl _)); clear hb)
          | (go_at_call 41; with_reducible refine Calls.mono (HM2.out _ _ r _ HSL5.out (HU.out.below HB5.out (Nat.le_refl _)) HB5.out (by have := HNL.out.1; have := HKL.out; omega)) ?_; rw [HPD.out r (by have := HNL.out.1; have := HKL.out; omega), HT.out]; rintro e w6 ⟨rfl, hb⟩; have HB6 := Lib.hid (HB5.out.trans (hb.mono HB5.out.size)); clear hb)
          | (go_at_call 42; refine (HAW.out _ HB6.out).mono ?_; rintro e w7 ⟨rfl, hb⟩; have HB7 := Lib.hid (HB6.out.trans (hb.mono HB6.out.size)); clear hb))
        go_ret
        exact ⟨rfl, HB7.out⟩
end Go.Proofs.YtnoilogepkelaaaDoor
