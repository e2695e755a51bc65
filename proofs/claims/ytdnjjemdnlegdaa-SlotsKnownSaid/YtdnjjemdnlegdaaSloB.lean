/-
  The log's small calls: laid.
-/
import Derived.Test.YtdnjjemdnlegdaaSloA
import Derived.Test.YtdnjjemdnlegdaaAny
namespace Go.Proofs.Ytdnjjemdnlegdaa
set_option linter.unusedVariables false
set_option linter.unusedSimpArgs false
open Go Go.RowKit

theorem sl_row {w : World} {b n : Nat} {t : TypeId} {fr : Nat × Nat} (xs : List (BitVec 8)) (h : w.heap[b]? = some (.cells (bytes xs) t fr)) (hn : n = xs.length) (hm : xs.length ≤ 1000000) : SlB w (.slice (some ⟨b, 0, none⟩) n n) xs := by
  subst hn
  exact SlB.ofRow (C := bytes xs) (bytes_toList _) rfl (Array.getElem?_eq_some_iff.1 h).1 (fun j => cell_of_row w b j _ _ _ h) (Nat.le_refl _) (by unfold maxLen; omega)
theorem make_b (n : Nat) (hn : n ≤ 1000000) (w : World) : (Instr.makeSlice 22 (.int .i64 (n : Int)) (.int .i64 (n : Int))).run Try.prog w = .ok (.slice (some ⟨w.heap.size, 0, none⟩) n n) (w.alloc (.cells (bytes (List.replicate n 0)) 5)) := by
  obtain ⟨i, hi, hz, hsz, hby⟩ := info_parts info_u8
  have hm := run_makeSlice (P := Try.prog) w 22 5 i (.int .u8 0) Try.underlying22 hi hz .i64 .i64 (n : Int) (n : Int) (by omega) (by omega) (by rw [hsz]; omega) (by rw [hby]; omega) (by omega)
  rw [hsz, Int.toNat_natCast, Nat.mul_one] at hm
  have hc : madeCells (Value.int .u8 0).cells n = bytes (List.replicate n 0) := by
    have e0 : (Value.int .u8 0).cells = #[.int .u8 0] := rfl
    apply Array.ext_getElem?
    intro j
    by_cases hj : j < n
    · rw [bytes_get? _ j (by simpa using hj)]
      simp [madeCells, e0, hj, bv, Nat.mod_one]
    · rw [Array.getElem?_eq_none (by rw [size_madeCells]; omega), Array.getElem?_eq_none (by rw [bytes_size]; simp; omega)]
  rw [hc] at hm
  exact hm
theorem bv_nat (k : Nat) : bv (BitVec.ofNat 8 k) = (k : Int) % 256 := by
  unfold bv
  rw [BitVec.toNat_ofNat]
  omega

/-- A block of its own, with these bytes. -/
def NewB (B : Nat) (w : World) (v : Value) (xs : List (BitVec 8)) : Prop := ∃ q, v = .slice (some ⟨q, 0, none⟩) xs.length xs.length ∧ B ≤ q ∧ w.heap[q]? = some (.cells (bytes xs) 5 (0, 0))

theorem splice_laid (t : List (BitVec 8)) (h : List (BitVec 8)) (hh : h.length = 5) : splice (splice (List.replicate (128 * Slo.taken t.length) 0) 0 (h.take (128 * Slo.taken t.length))) 5 (t.take (128 * Slo.taken t.length - 5)) = h ++ (t ++ List.replicate (128 * Slo.taken t.length - 5 - t.length) 0) := by
  have hg := Slo.taken_ge t.length
  rw [List.take_of_length_le (by omega), List.take_of_length_le (by omega)]
  simp only [splice, List.take_zero, List.nil_append, Nat.zero_add]
  rw [List.take_left' hh, hh, List.drop_append, hh, List.drop_replicate, List.drop_replicate, List.drop_of_length_le (l := h) (by omega)]
  simp only [List.nil_append]
  congr 3
  omega

set_option maxRecDepth 100000 in
set_option maxHeartbeats 2000000 in
theorem laid_any (t : List (BitVec 8)) (v : Value) (w : World) (hs : SlB w v t) (hl : t.length ≤ 262144) :
    Calls Try.prog 53 #[v] w fun e w' => ∃ v', e = .returned v' ∧ NewB w.heap.size w' v' (Slo.laid 0 t) ∧ Below w.heap.size w w' := by
  obtain ⟨a, cap, rfl⟩ := hs.len
  have hg := Slo.taken_ge t.length
  have hu := Slo.taken_le t.length
  have HLL := Lib.hid (Slo.laid_length 0 t)
  have HLD := Lib.hid (show Slo.laid 0 t = (0 :: Num.num t.length 4) ++ (t ++ List.replicate (128 * Slo.taken t.length - 5 - t.length) 0) from rfl)
  have HSP := Lib.hid (splice_laid t (0 :: Num.num t.length 4) (by simp [Num.num_length]))
  have HS := Lib.hid (fun W (hB : Below w.heap.size w W) => hs.below hB (Nat.le_refl _))
  have HTK := Lib.hid (fun w => taken_any t.length (by omega) w)
  have HMK := Lib.hid (fun w => make_b (128 * Slo.taken t.length) (by omega) w)
  have HN4 := Lib.hid (show ((0 : BitVec 8) :: Num.num t.length 4) = [0, BitVec.ofNat 8 (t.length / 16777216), BitVec.ofNat 8 (t.length / 65536), BitVec.ofNat 8 (t.length / 256), BitVec.ofNat 8 t.length] by rw [Num.num4])
  obtain ⟨R, hR⟩ : ∃ R, Slo.laid 0 t = R := ⟨_, rfl⟩
  rw [hR] at HLL HLD ⊢
  rw [← HLD.out] at HSP
  clear hs hR HLD
  obtain ⟨n, hn⟩ : ∃ n, t.length = n := ⟨_, rfl⟩
  have HN := Lib.hid hn
  rw [hn] at hg hu HLL HSP HTK HMK HN4 hl ⊢
  clear hn
  generalize Slo.taken n = tk at hg hu HLL HSP HTK HMK
  obtain ⟨M, hM⟩ : ∃ M, 128 * tk = M := ⟨_, rfl⟩
  rw [hM] at hg hu HLL HSP HMK
  have HM := Lib.hid (show wrap64 ((tk : Int) * 128) = (M : Int) ∧ IntKind.i64.wrap ((tk : Int) * 128) = (M : Int) by
    have e : IntKind.i64.wrap ((tk : Int) * 128) = (M : Int) := by rw [IntKind.wrap_i64]; omega
    exact ⟨by rw [wrap64]; omega, e⟩)
  have HMB := Lib.hid (show 5 < M ∧ M ≤ 1000000 ∧ n ≤ M - 5 by omega)
  clear hl hg hu hM
  go_enter Try.func53, Try.ntmps53
  go_upto_region 3 with fail
  obtain ⟨W, hW, hBW, hWs, hW0⟩ := alloc1 w (.cells #[.int .u8 0, .int .u8 ((n : Int) / 16777216 % 256), .int .u8 ((n : Int) / 65536 % 256), .int .u8 ((n : Int) / 256 % 256), .int .u8 ((n : Int) % 256)] 107)
  rw [hW]
  have H5 := Lib.hid (show W.heap[w.heap.size]? = some (.cells (bytes (0 :: Num.num n 4)) 107 (0, 0)) by
    rw [hW0, HN4.out]
    have e1 := bv_nat (n / 16777216)
    have e2 := bv_nat (n / 65536)
    have e3 := bv_nat (n / 256)
    have e4 := bv_nat n
    simp only [bytes, List.map_cons, List.map_nil, e1, e2, e3, e4]
    rfl)
  have HBW := Lib.hid hBW
  have HWS := Lib.hid hWs
  clear hW hBW hWs hW0
  have hq := HM.out.1
  have hq2 := HM.out.2
  have hmk := HMK.out
  go_upto_region 4 with (go_at_call 52; refine (HTK.out _).mono ?_; rintro e W1 ⟨rfl, rfl⟩)
  clear hq hq2 hmk
  obtain ⟨V, hV, hBV, hVs, hV0⟩ := alloc1 W (.cells (bytes (List.replicate M (0 : BitVec 8))) 5)
  have hVV : W.alloc (.cells (bytes (List.replicate M 0#8)) 5) = V := hV
  rw [hVV]
  clear hVV hV
  have HV0 := Lib.hid hV0
  have H5V := Lib.hid ((hBV.block _ (by have := HWS.out; omega)).trans H5.out)
  have HBV := Lib.hid (HBW.out.trans (hBV.mono HBW.out.size))
  have HVS := Lib.hid hVs
  clear hV0 hBV hVs
  obtain ⟨L1, hL1⟩ : ∃ L1, splice (List.replicate M 0) 0 ((0 :: Num.num n 4).take M) = L1 := ⟨_, rfl⟩
  have HL1 := Lib.hid hL1
  have HL1l := Lib.hid (show L1.length = M by rw [← hL1, Dk.splice_length _ _ _ (by have := HMB.out; simp [Num.num_length]; omega)]; simp)
  go_upto_region 5 with (refine wpList_copy_b rfl (.tmp 24) (.tmp 25) 22 5 rfl Try.underlying22 (by kernel_rfl) W.heap.size 0 M M (.slice (some ⟨w.heap.size, 0, none⟩) 5 5) (0 :: Num.num n 4) rfl rfl (sl_row (0 :: Num.num n 4) H5V.out (by simp [Num.num_length]) (by simp [Num.num_length])) (List.replicate M 0) [] 5 (by rw [bytes_bcells]; exact HV0.out) (by simp) ?_; rw [HL1.out])
  rw [hL1] at HSP
  clear hL1 HL1
  obtain ⟨U, hU⟩ : ∃ U, V.setRow W.heap.size (bcells L1 ++ []).toArray = U := ⟨_, rfl⟩
  have HU0 := Lib.hid (show U.heap[W.heap.size]? = some (.cells (bcells L1 ++ []).toArray 5 (0, 0)) by rw [← hU]; exact setRow_heap _ _ _ _ _ _ HV0.out)
  have HBU := Lib.hid (show Below w.heap.size w U by rw [← hU]; exact HBV.out.trans (((Kept.refl [W.heap.size] V).setRow (by simp) _).toBelow (B := w.heap.size) (by have := HWS.out; simp; omega) HBV.out.size))
  have HSU := Lib.hid (show SlB U (.slice a n cap) t by have := HS.out U HBU.out; rw [HN.out] at this; exact this)
  rw [hU]
  clear hU
  have h5 : 5 < M := HMB.out.1
  have h6 : ¬ M = 5 := by omega
  have h5' : (5 : Int) ≤ M := by omega
  go_upto_region 6 with (refine wpList_copy_b rfl (.tmp 28) (.tmp 29) 22 5 rfl Try.underlying22 (by kernel_rfl) W.heap.size 5 (M - 5) (M - 5) (.slice a n cap) t rfl rfl HSU.out L1 [] 5 HU0.out (by rw [HL1l.out]; omega) ?_; rw [HSP.out])
  go_wp2
  go_ret
  refine ⟨_, rfl, ⟨W.heap.size, by rw [HLL.out]; rfl, by have := HBW.out.size; omega, ?_⟩, ?_⟩
  · have e := bytes_bcells R
    simp only [List.append_nil] at e ⊢
    rw [e]; exact setRow_heap _ _ _ _ _ _ HU0.out
  · exact HBU.out.trans (((Kept.refl [W.heap.size] U).setRow (by simp) _).toBelow (B := w.heap.size) (by have := HWS.out; simp; omega) HBU.out.size)
end Go.Proofs.Ytdnjjemdnlegdaa
