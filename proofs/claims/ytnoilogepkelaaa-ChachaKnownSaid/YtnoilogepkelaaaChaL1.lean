/-
  The law ChachaStreams's walk: what bytes become is the document's; they stay.
-/
import Derived.Test.YtnoilogepkelaaaChaS2
import Derived.Test.YtnoilogepkelaaaRcS
import Derived.Test.YtnoilogepkelaaaChaQL
import Derived.Test.YtnoilogepkelaaaStr
import Derived.Test.YtnoilogepkelaaaOCase
import Derived.Deep.MidRow
import Derived.Deep.DeepCutAuto
namespace Go.Proofs.Ytnoilogepkelaaa
set_option linter.unusedVariables false
set_option linter.unusedSimpArgs false
open Go Go.RowKit
attribute [local go_sem] u8_xor'

/-- A case's parts, where it lies whole. -/
structure CaseAt (w : World) (g : Nat) (key : List (BitVec 8)) (c : BitVec 32) (nonce : List (BitVec 8)) : Prop where
  k : w.rangeAt g 0 (bytes key).toList
  c : w.cell? ⟨g, 32, none⟩ = some (.int .u32 (wv c))
  n : w.rangeAt g 33 (bytes nonce).toList
theorem caseAt_row {w : World} {g : Nat} {key nonce : List (BitVec 8)} {c : BitVec 32} {t : TypeId} {fr : Nat × Nat} (hk : key.length = 32) (hn : nonce.length = 12) (h : w.heap[g]? = some (.cells (caseC key c nonce).toArray t fr)) : CaseAt w g key c nonce := by
  have hr : ∀ j, w.cell? ⟨g, j, none⟩ = (caseC key c nonce)[j]? := fun j => (cell_of_row _ _ _ _ _ _ h).trans (by simp)
  refine ⟨fun j v hj => ?_, ?_, fun j v hj => ?_⟩
  · rw [Nat.zero_add, hr, caseC, List.getElem?_append_left, ← bytes_toList]
    · exact hj
    · have := (List.getElem?_eq_some_iff.1 hj).1
      rw [bytes_toList] at this
      exact this
  · rw [hr, caseC, List.getElem?_append_right (by rw [bcells_length]; omega), bcells_length, hk]
    rfl
  · rw [hr, caseC, List.getElem?_append_right (by rw [bcells_length]; omega), bcells_length, hk, show 33 + j - 32 = j + 1 by omega, List.getElem?_cons_succ, ← bytes_toList]
    exact hj
theorem CaseAt.kept {w w' : World} {g : Nat} {key nonce : List (BitVec 8)} {c : BitVec 32} {l : List Nat} (h : CaseAt w g key c nonce) (hk : Kept l w w') (hg : g < w.heap.size) (hl : g ∉ l) : CaseAt w' g key c nonce :=
  ⟨fun j v hj => (hk.cell g _ hg hl).trans (h.k j v hj), (hk.cell g _ hg hl).trans h.c, fun j v hj => (hk.cell g _ hg hl).trans (h.n j v hj)⟩

set_option maxRecDepth 100000 in
set_option maxHeartbeats 4000000 in
theorem law_streams_ok (key nonce b : List (BitVec 8)) (c : BitVec 32) (v : Value) (w : World) (hs : SlB w v b) (hk : key.length = 32) (hn : nonce.length = 12) (hl : b.length ≤ 2000) (hf : Cha.fits c b.length = true) :
    Calls Try.prog 5 #[.agg (caseC key c nonce).toArray, v] w fun e w' => e = .returned (.bool true) ∧ Below w.heap.size w w' := by
  obtain ⟨a, cap, rfl⟩ := hs.len
  have HS := Lib.hid hs
  have HIK := Lib.hid (show (Try.prog.info? 29).map (·.size) = some (bytes key).toList.length by rw [Array.length_toList, bytes_size, hk]; kernel_rfl)
  have HIN := Lib.hid (show (Try.prog.info? 31).map (·.size) = some (bytes nonce).toList.length by rw [Array.length_toList, bytes_size, hn]; kernel_rfl)
  have HST := Lib.hid (fun v W h => stream_good key nonce b c v W h hk hn (by omega) hf)
  have HSR := Lib.hid (fun v W h => (rstream_any key nonce b c v W h hk hn (by omega)).mono fun e w' h' => h'.elim (fun h1 => absurd hf (by rw [h1.1]; simp)) (fun h1 => h1.2))
  have HF := Lib.hid hf
  have HAW := Lib.hid awake_any
  obtain ⟨W, hW, hBW, hWs, hWb⟩ := alloc1 w (.cells (caseC key c nonce).toArray 39)
  have HX := Lib.hid (And.intro hBW (And.intro hWs (caseAt_row hk hn hWb)))
  have HW := Lib.hid hW
  have HS1 := Lib.hid (HS.out.below hBW (Nat.le_refl _))
  obtain ⟨n, hbn⟩ : ∃ n, b.length = n := ⟨_, rfl⟩
  have HBN := Lib.hid hbn
  rw [hbn] at hl HS1 ⊢
  have hnl : ¬ (2000 : Int) < (n : Int) := by omega
  obtain ⟨cs, hcs⟩ : ∃ cs, (caseC key c nonce).toArray = cs := ⟨_, rfl⟩
  rw [hcs] at HW ⊢
  clear hs hf hBW hWb hW hbn hcs hWs
  go_enter Try.func5, Try.ntmps5
  go_upto_region 3 with fail
  rw [HW.out]
  go_upto_region 4 with (at_builtin; refine wpList_append_b rfl (.tmp 16) (.tmp 17) 40 5 rfl Try.underlying40 info_u8 W.heap.size (.slice (some ⟨W.heap.size, 0, none⟩) 0 0) [] (World.ownsRow_made W #[] 0 (Nat.le_refl _) (by decide) rfl) rfl _ b (HS1.out.alloc _) rfl (by rw [HBN.out]; simp; omega) (by simp) ?_; intro v1 w1 ho hg hn'; have HO1 := Lib.hid ho; have HB1 := Lib.hid (((Below.refl _ W).alloc (Nat.le_refl _) _).grown hg (by simp) (fun k e => by simp only [Value.ownBlock, Option.some.injEq] at e; omega)); clear ho hg hn')
  have hzW := HX.out.2.1
  have h1 := HB1.out.size
  have hca := HX.out.2.2.kept (Kept.ofBelow (l := []) HB1.out (Nat.le_refl _)) (by omega) (by simp)
  have HC1 := Lib.hid hca
  have cc1 := hca.c
  have hso : SlB w1 v1 b := by have := HO1.out.sl; rwa [List.nil_append] at this
  have HSO := Lib.hid hso
  have HSV := Lib.hid (HS1.out.below HB1.out (Nat.le_refl _))
  clear hca hso hzW
  go_upto_region 5 with (first
    | (refine wpList_load_mid rfl 29 (.tmp 20) rfl w.heap.size 0 rfl (bytes key).toList _ HC1.out.k Try.underlying29 rfl HIK.out ?_)
    | (refine wpList_load_mid rfl 31 (.tmp 24) rfl w.heap.size 33 rfl (bytes nonce).toList _ HC1.out.n Try.underlying31 rfl HIN.out ?_)
    | (go_at_call 14; refine (HST.out v1 _ HSO.out).mono ?_; rintro e w2 ⟨v2, rfl, ho, hb⟩; have HO2 := Lib.hid ho; have HB2 := Lib.hid hb; clear ho hb))
  have h2 := HB2.out.size
  have hca := HC1.out.kept (Kept.ofBelow (l := []) HB2.out (Nat.le_refl _)) (by have := HX.out.2.1; omega) (by simp)
  have HC2 := Lib.hid hca
  have cc2 := hca.c
  have HSV2 := Lib.hid (HSV.out.below HB2.out (Nat.le_refl _))
  clear hca cc1
  go_upto_region 6 with (first
    | (refine wpList_load_mid rfl 29 (.tmp 31) rfl w.heap.size 0 rfl (bytes key).toList _ HC2.out.k Try.underlying29 rfl HIK.out ?_)
    | (refine wpList_load_mid rfl 31 (.tmp 35) rfl w.heap.size 33 rfl (bytes nonce).toList _ HC2.out.n Try.underlying31 rfl HIN.out ?_)
    | (go_at_call 15; refine (HSR.out _ _ HSV2.out).mono ?_; rintro e w3 ⟨v3, rfl, ho, hb⟩; have HO3 := Lib.hid ho; have HB3 := Lib.hid hb; clear ho hb))
  have h3 := HB3.out.size
  have HSO3 := Lib.hid ((HSO.out.below HB2.out (Nat.le_refl _)).below HB3.out (Nat.le_refl _))
  have HSV3 := Lib.hid (HSV2.out.below HB3.out (Nat.le_refl _))
  have HX3 := Lib.hid (HO2.out.below HB3.out (Nat.le_refl _))
  have HBW := Lib.hid (HX.out.1.trans ((HB1.out.trans ((HB2.out.trans (HB3.out.mono h2)).mono h1)).mono (by have := HX.out.2.1; omega)))
  have hv1 : ∀ k, v1.ownBlock = some k → k < w1.heap.size := fun k e => (World.ownsRow.lt HO1.out k e).2
  have HV1 := Lib.hid hv1
  have HV0 := Lib.hid HS.out
  clear cc2 HC1 HC2 HST HSR HSV HSV2 HSO hv1
  have k1 := conv_any HX3.out.sl
  have k2 := conv_any HO3.out.sl
  have k3 := conv_any HSO3.out
  have k4 := conv_any HSV3.out
  go_upto_region 7 with fail
  clear k1 k2 k3 k4 HO3
  have hsl := Cha.stream_length key c nonce b
  generalize Cha.stream key c nonce b = st at *
  have HSL := Lib.hid (hsl.trans HBN.out)
  clear hsl
  obtain ⟨a2, cap2, rfl⟩ := HX3.out.sl.len
  rw [HSL.out] at HX3 ⊢
  go_wp2
  go_loopw [11] (fun s wr => ∃ (i : Nat) (zs : List (BitVec 8)), i ≤ n ∧ s = .int .i64 i ∧ Hid (zs.length = n) ∧ Hid (OwnB 5 w1.heap.size wr (.slice a2 n cap2) zs) ∧ Hid (SlB wr v1 b) ∧ Hid (SlB wr (.slice a n cap) b) ∧ Hid (Below w.heap.size w wr)) (fun s _ => n - (intOf s).toNat)
  case atStart => exact ⟨0, st, Nat.zero_le _, rfl, HSL, HX3, HSO3, HSV3, HBW⟩
  case round =>
    clear HX3 HSO3 HSV3 HBW HO1 HO2 HSL
    obtain ⟨i, zs, hi, rfl, HZL, HZ, HSO, HSV, HB⟩ := hrel
    by_cases hlt : i < n
    · obtain ⟨g2, c2, hv2, hg1, hg2, _, _⟩ := HZ.out.form n HZL.out (by omega)
      simp only [Value.slice.injEq] at hv2
      obtain ⟨rfl, _, rfl⟩ := hv2
      obtain ⟨z, hz⟩ : ∃ z, zs.getD i 0 = z := ⟨_, rfl⟩
      have cz : wr.cell? ⟨g2, i, none⟩ = some (.int .u8 (bv z)) := by rw [HZ.out.get_cell i (by rw [HZL.out]; exact hlt), hz]; rfl
      have fz := HZ.out.not_frozen i
      have h255 : bits .xor .u8 (bv z) 255 = bv (z ^^^ 255) := u8_xor' z 255
      have hk : Kept [g2] wr (wr.setCell ⟨g2, i, none⟩ (.int .u8 (bv (z ^^^ 255)))) := (Kept.refl _ wr).setCell (by simp) _
      have hzw := HB.out.size
      have HZ2 := Lib.hid (HZ.out.set_cell i (by rw [HZL.out]; exact hlt) (z ^^^ 255))
      have HZL2 := Lib.hid (show (zs.set i (z ^^^ 255)).length = n by rw [List.length_set, HZL.out])
      have HSO2 := Lib.hid (HSO.out.keptV hk (fun k e => by have := HV1.out k e; simp; omega))
      have HSV2 := Lib.hid (HSV.out.keptN hk (B := w1.heap.size) (by simp; omega) (fun hne k e => by have := HV0.out.lt hne k (by rw [HBN.out]; exact e); have := HX.out.2.1; omega))
      have HB2 := Lib.hid (HB.out.trans (hk.toBelow (B := w.heap.size) (by simp; have := HX.out.2.1; omega) hzw))
      clear hz hk
      go_wp2
      exact ⟨⟨i + 1, _, by omega, by go_num, HZL2, HZ2, HSO2, HSV2, HB2⟩, by simp [intOf]; omega⟩
    · obtain rfl : i = n := by omega
      have k3 := conv_any HSO.out
      have k4 := conv_any HSV.out
      go_wp2_with (go_at_call 10; refine (HAW.out _).mono ?_; rintro e w5 ⟨rfl, hbw⟩)
      go_ret
      exact ⟨rfl, HB.out.trans (hbw.mono HB.out.size)⟩
end Go.Proofs.Ytnoilogepkelaaa
