/-
  The law ChachaStreams's walk: where there are too many bytes for the counter; where too many are given.
-/
import Derived.Test.YtnoilogepkelaaaChaL1
namespace Go.Proofs.Ytnoilogepkelaaa
set_option linter.unusedVariables false
set_option linter.unusedSimpArgs false
open Go Go.RowKit

set_option maxRecDepth 100000 in
set_option maxHeartbeats 4000000 in
theorem law_streams_err (key nonce b : List (BitVec 8)) (c : BitVec 32) (v : Value) (w : World) (hs : SlB w v b) (hk : key.length = 32) (hn : nonce.length = 12) (hl : b.length ≤ 2000) (hf : Cha.fits c b.length = false) :
    Calls Try.prog 5 #[.agg (caseC key c nonce).toArray, v] w fun e w' => e = .returned (.bool true) ∧ Below w.heap.size w w' := by
  obtain ⟨a, cap, rfl⟩ := hs.len
  have HS := Lib.hid hs
  have HIK := Lib.hid (show (Try.prog.info? 29).map (·.size) = some (bytes key).toList.length by rw [Array.length_toList, bytes_size, hk]; kernel_rfl)
  have HIN := Lib.hid (show (Try.prog.info? 31).map (·.size) = some (bytes nonce).toList.length by rw [Array.length_toList, bytes_size, hn]; kernel_rfl)
  have HST := Lib.hid (fun v W h => stream_err key nonce b c v W h hk hn (by omega) hf)
  have HSR := Lib.hid (fun v W h => (rstream_any key nonce b c v W h hk hn (by omega)).mono fun e w' h' => h'.elim (fun h1 => h1.2) (fun h1 => absurd hf (by rw [h1.1]; simp)))
  have HF := Lib.hid hf
  have HAW := Lib.hid awake_any
  obtain ⟨W, hW, hBW, hWs, hWb⟩ := alloc1 w (.cells (caseC key c nonce).toArray 39)
  have HX := Lib.hid (And.intro hBW (And.intro hWs (caseAt_row hk hn hWb)))
  have HW := Lib.hid hW
  have HS1 := Lib.hid (HS.out.below hBW (Nat.le_refl _))
  obtain ⟨n, hbn⟩ : ∃ n, b.length = n := ⟨_, rfl⟩
  have HBN := Lib.hid hbn
  rw [hbn] at hl HS1 ⊢
  have hnl : ¬ (2000 : Int) < (n : Int) := by omega
  obtain ⟨cs, hcs⟩ : ∃ cs, (caseC key c nonce).toArray = cs := ⟨_, rfl⟩
  rw [hcs] at HW ⊢
  clear hs hf hBW hWb hW hbn hcs hWs
  go_enter Try.func5, Try.ntmps5
  go_upto_region 3 with fail
  rw [HW.out]
  go_upto_region 4 with (at_builtin; refine wpList_append_b rfl (.tmp 16) (.tmp 17) 40 5 rfl Try.underlying40 info_u8 W.heap.size (.slice (some ⟨W.heap.size, 0, none⟩) 0 0) [] (World.ownsRow_made W #[] 0 (Nat.le_refl _) (by decide) rfl) rfl _ b (HS1.out.alloc _) rfl (by rw [HBN.out]; simp; omega) (by simp) ?_; intro v1 w1 ho hg hn'; have HO1 := Lib.hid ho; have HB1 := Lib.hid (((Below.refl _ W).alloc (Nat.le_refl _) _).grown hg (by simp) (fun k e => by simp only [Value.ownBlock, Option.some.injEq] at e; omega)); clear ho hg hn')
  have hzW := HX.out.2.1
  have h1 := HB1.out.size
  have hca := HX.out.2.2.kept (Kept.ofBelow (l := []) HB1.out (Nat.le_refl _)) (by omega) (by simp)
  have HC1 := Lib.hid hca
  have cc1 := hca.c
  have hso : SlB w1 v1 b := by have := HO1.out.sl; rwa [List.nil_append] at this
  have HSO := Lib.hid hso
  have HSV := Lib.hid (HS1.out.below HB1.out (Nat.le_refl _))
  clear hca hso hzW
  go_upto_region 5 with (first
    | (refine wpList_load_mid rfl 29 (.tmp 20) rfl w.heap.size 0 rfl (bytes key).toList _ HC1.out.k Try.underlying29 rfl HIK.out ?_)
    | (refine wpList_load_mid rfl 31 (.tmp 24) rfl w.heap.size 33 rfl (bytes nonce).toList _ HC1.out.n Try.underlying31 rfl HIN.out ?_)
    | (go_at_call 14; refine (HST.out v1 _ HSO.out).mono ?_; rintro e w2 ⟨rfl, hb⟩; have HB2 := Lib.hid hb; clear hb))
  have h2 := HB2.out.size
  have hca := HC1.out.kept (Kept.ofBelow (l := []) HB2.out (Nat.le_refl _)) (by have := HX.out.2.1; omega) (by simp)
  have HC2 := Lib.hid hca
  have cc2 := hca.c
  have HSV2 := Lib.hid (HSV.out.below HB2.out (Nat.le_refl _))
  clear hca cc1
  go_upto_region 6 with (first
    | (refine wpList_load_mid rfl 29 (.tmp 31) rfl w.heap.size 0 rfl (bytes key).toList _ HC2.out.k Try.underlying29 rfl HIK.out ?_)
    | (refine wpList_load_mid rfl 31 (.tmp 35) rfl w.heap.size 33 rfl (bytes nonce).toList _ HC2.out.n Try.underlying31 rfl HIN.out ?_)
    | (go_at_call 15; refine (HSR.out _ _ HSV2.out).mono ?_; rintro e w3 ⟨rfl, hb⟩; have HB3 := Lib.hid hb; clear hb))
  have h3 := HB3.out.size
  have HSO3 := Lib.hid ((HSO.out.below HB2.out (Nat.le_refl _)).below HB3.out (Nat.le_refl _))
  have HSV3 := Lib.hid (HSV2.out.below HB3.out (Nat.le_refl _))
  have HBW := Lib.hid (HX.out.1.trans ((HB1.out.trans ((HB2.out.trans (HB3.out.mono h2)).mono h1)).mono (by have := HX.out.2.1; omega)))
  clear cc2 HC1 HC2 HST HSR HSV HSV2 HSO
  have k1 := conv_any (SlB.nil w3)
  have k3 := conv_any HSO3.out
  have k4 := conv_any HSV3.out
  go_upto_region 7 with fail
  go_wp2
  go_loopw [11] (fun s wr => s = .int .i64 0 ∧ wr = w3) (fun s _ => 0)
  case atStart => exact ⟨rfl, rfl⟩
  case round =>
    obtain ⟨rfl, rfl⟩ := hrel
    go_wp2_with (go_at_call 10; refine (HAW.out _).mono ?_; rintro e w5 ⟨rfl, hbw⟩)
    go_ret
    exact ⟨rfl, HBW.out.trans (hbw.mono HBW.out.size)⟩

theorem law_streams_long (cs : Array Value) (b : List (BitVec 8)) (v : Value) (w : World) (hs : SlB w v b) (hl : 2000 < b.length) :
    Calls Try.prog 5 #[.agg cs, v] w fun e w' => e = .returned (.bool true) ∧ Below w.heap.size w w' := by
  obtain ⟨a, cap, rfl⟩ := hs.len
  have HAW := Lib.hid awake_any
  generalize b.length = n at *
  have hnl : (2000 : Int) < (n : Int) := by omega
  clear hs
  go_enter Try.func5, Try.ntmps5
  go_wp2_with (go_at_call 10; refine (HAW.out _).mono ?_; rintro e w5 ⟨rfl, hbw⟩)
  go_ret
  exact ⟨rfl, ((Below.refl _ w).alloc (Nat.le_refl _) _).trans (hbw.mono (by simp))⟩

theorem law_chachaStreams {w : World} (key : List (BitVec 8)) (c : BitVec 32) (nonce : List (BitVec 8)) (hk : key.length = 32) (hn : nonce.length = 12) (v : Value) (b : List (BitVec 8)) (hs : SlB w v b) :
    Calls Try.prog 5 #[.agg (caseC key c nonce).toArray, v] w fun e w' => e = .returned (.bool true) ∧ Below w.heap.size w w' := by
  by_cases hl : b.length ≤ 2000
  · by_cases hf : Cha.fits c b.length = true
    · exact law_streams_ok key nonce b c v w hs hk hn hl hf
    · exact law_streams_err key nonce b c v w hs hk hn hl (by simpa using hf)
  · exact law_streams_long _ b v w hs (by omega)
end Go.Proofs.Ytnoilogepkelaaa
