/-
  The law ChachaBack's walk: where there are too many bytes for the counter; where too many are given.
-/
import Derived.Test.YtnoilogepkelaaaChaL3
namespace Go.Proofs.Ytnoilogepkelaaa
set_option linter.unusedVariables false
set_option linter.unusedSimpArgs false
open Go Go.RowKit

set_option maxRecDepth 100000 in
set_option maxHeartbeats 4000000 in
theorem law_back_err (key nonce b : List (BitVec 8)) (c : BitVec 32) (v : Value) (cut : Int) (w : World) (hs : SlB w v b) (hk : key.length = 32) (hn : nonce.length = 12) (hl : b.length ≤ 2000) (hf : Cha.fits c b.length = false) :
    Calls Try.prog 7 #[.agg (caseC key c nonce).toArray, v, .int .u16 cut] w fun e w' => e = .returned (.bool true) ∧ Below w.heap.size w w' := by
  obtain ⟨a, cap, rfl⟩ := hs.len
  have HS := Lib.hid hs
  have HIK := Lib.hid (show (Try.prog.info? 29).map (·.size) = some (bytes key).toList.length by rw [Array.length_toList, bytes_size, hk]; kernel_rfl)
  have HIN := Lib.hid (show (Try.prog.info? 31).map (·.size) = some (bytes nonce).toList.length by rw [Array.length_toList, bytes_size, hn]; kernel_rfl)
  have HST := Lib.hid (fun v W h => stream_err key nonce b c v W h hk hn (by omega) hf)
  have HAW := Lib.hid awake_any
  obtain ⟨W, hW, hBW, hWs, hWb⟩ := alloc1 w (.cells (caseC key c nonce).toArray 39)
  have HX := Lib.hid hBW
  have HW := Lib.hid hW
  have HS1 := Lib.hid (HS.out.below hBW (Nat.le_refl _))
  have hca := caseAt_row hk hn hWb
  have HC1 := Lib.hid hca
  have cc1 := hca.c
  obtain ⟨n, hbn⟩ : ∃ n, b.length = n := ⟨_, rfl⟩
  rw [hbn] at hl HS1 ⊢
  have hnl : ¬ (2000 : Int) < (n : Int) := by omega
  obtain ⟨cs, hcs⟩ : ∃ cs, (caseC key c nonce).toArray = cs := ⟨_, rfl⟩
  rw [hcs] at HW ⊢
  clear hs hf hBW hWb hW hbn hcs hWs hca
  go_enter Try.func7, Try.ntmps7
  go_upto_region 3 with fail
  rw [HW.out]
  go_wp2_with (first
    | (refine wpList_load_mid rfl 29 (.tmp 22) rfl w.heap.size 0 rfl (bytes key).toList _ HC1.out.k Try.underlying29 rfl HIK.out ?_)
    | (refine wpList_load_mid rfl 31 (.tmp 26) rfl w.heap.size 33 rfl (bytes nonce).toList _ HC1.out.n Try.underlying31 rfl HIN.out ?_)
    | (go_at_call 14; refine (HST.out _ _ HS1.out).mono ?_; rintro e w1 ⟨rfl, hb⟩; have HB1 := Lib.hid hb; clear hb)
    | (go_at_call 10; refine (HAW.out _).mono ?_; rintro e w6 ⟨rfl, hbw⟩))
  go_ret
  have h1 := HB1.out.size
  exact ⟨rfl, HX.out.trans ((HB1.out.trans (hbw.mono h1)).mono HX.out.size)⟩

theorem law_back_long (cs : Array Value) (b : List (BitVec 8)) (v : Value) (cut : Int) (w : World) (hs : SlB w v b) (hl : 2000 < b.length) :
    Calls Try.prog 7 #[.agg cs, v, .int .u16 cut] w fun e w' => e = .returned (.bool true) ∧ Below w.heap.size w w' := by
  obtain ⟨a, cap, rfl⟩ := hs.len
  have HAW := Lib.hid awake_any
  generalize b.length = n at *
  have hnl : (2000 : Int) < (n : Int) := by omega
  clear hs
  go_enter Try.func7, Try.ntmps7
  go_wp2_with (go_at_call 10; refine (HAW.out _).mono ?_; rintro e w5 ⟨rfl, hbw⟩)
  go_ret
  exact ⟨rfl, ((Below.refl _ w).alloc (Nat.le_refl _) _).trans (hbw.mono (by simp))⟩

theorem u16_wf {n : Int} (h : (Lit.int .u16 n).wf = true) : 0 ≤ n ∧ n ≤ 65535 := by
  simpa [Lit.wf, IntKind.min, IntKind.max, IntKind.bits, IntKind.signed] using h
theorem law_chachaBack {w : World} (key : List (BitVec 8)) (c : BitVec 32) (nonce : List (BitVec 8)) (hk : key.length = 32) (hn : nonce.length = 12) (v : Value) (b : List (BitVec 8)) (hs : SlB w v b) (cut : Int) (hc : (Lit.int .u16 cut).wf = true) :
    Calls Try.prog 7 #[.agg (caseC key c nonce).toArray, v, .int .u16 cut] w fun e w' => e = .returned (.bool true) ∧ Below w.heap.size w w' := by
  by_cases hl : b.length ≤ 2000
  · by_cases hf : Cha.fits c b.length = true
    · exact law_back_ok key nonce b c v cut w hs hk hn hl hf (u16_wf hc).1 (u16_wf hc).2
    · exact law_back_err key nonce b c v cut w hs hk hn hl (by simpa using hf)
  · exact law_back_long _ b v cut w hs (by omega)
end Go.Proofs.Ytnoilogepkelaaa
