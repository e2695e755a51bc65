/-
  The law ChachaBack's walk: what was made unreadable is made readable by the same; the first so many bytes are those of all; from a later block on it is that with its counter.
-/
import Derived.Test.YtnoilogepkelaaaChaL1
import Derived.Deep.RegionHeld3
import Derived.Deep.QuietTactic
import Derived.BigQuiet
import Derived.Deep.RegionWith
namespace Go.Proofs.Ytnoilogepkelaaa
set_option linter.unusedVariables false
set_option linter.unusedSimpArgs false
open Go Go.RowKit

set_option maxRecDepth 100000 in
set_option maxHeartbeats 4000000 in
theorem law_back_ok (key nonce b : List (BitVec 8)) (c : BitVec 32) (v : Value) (cut : Int) (w : World) (hs : SlB w v b) (hk : key.length = 32) (hn : nonce.length = 12) (hl : b.length ≤ 2000) (hf : Cha.fits c b.length = true) (hc0 : 0 ≤ cut) (hc1 : cut ≤ 65535) :
    Calls Try.prog 7 #[.agg (caseC key c nonce).toArray, v, .int .u16 cut] w fun e w' => e = .returned (.bool true) ∧ Below w.heap.size w w' := by
  obtain ⟨a, cap, rfl⟩ := hs.len
  have HS := Lib.hid hs
  have HIK := Lib.hid (show (Try.prog.info? 29).map (·.size) = some (bytes key).toList.length by rw [Array.length_toList, bytes_size, hk]; kernel_rfl)
  have HIN := Lib.hid (show (Try.prog.info? 31).map (·.size) = some (bytes nonce).toList.length by rw [Array.length_toList, bytes_size, hn]; kernel_rfl)
  have HST := Lib.hid (fun (c : BitVec 32) (b : List (BitVec 8)) v W h hl hf => stream_good key nonce b c v W h hk hn hl hf)
  have HF := Lib.hid hf
  have HAW := Lib.hid awake_any
  obtain ⟨W, hW, hBW, hWs, hWb⟩ := alloc1 w (.cells (caseC key c nonce).toArray 39)
  have HX := Lib.hid (And.intro hBW (And.intro hWs (caseAt_row hk hn hWb)))
  have HW := Lib.hid hW
  have HS1 := Lib.hid (HS.out.below hBW (Nat.le_refl _))
  have hca := HX.out.2.2
  have HC1 := Lib.hid hca
  have cc1 := hca.c
  have hbnd := hs.bounds.2
  obtain ⟨n, hbn⟩ : ∃ n, b.length = n := ⟨_, rfl⟩
  have HBN := Lib.hid hbn
  rw [hbn] at hl HS1 hbnd ⊢
  have hnl : ¬ (2000 : Int) < (n : Int) := by omega
  obtain ⟨k, hkc, hkn⟩ : ∃ k : Nat, cut % ((n : Int) + 1) = k ∧ k ≤ n := ⟨(cut % ((n : Int) + 1)).toNat, by have := Int.emod_nonneg cut (show ((n : Int) + 1) ≠ 0 by omega); omega, by have := Int.emod_lt_of_pos cut (show 0 < (n : Int) + 1 by omega); omega⟩
  obtain ⟨cs, hcs⟩ : ∃ cs, (caseC key c nonce).toArray = cs := ⟨_, rfl⟩
  rw [hcs] at HW ⊢
  clear hs hf hBW hWb hW hbn hcs hWs hca
  go_enter Try.func7, Try.ntmps7
  go_upto_region 3 with fail
  rw [HW.out]
  go_upto_region 6 with (first
    | (refine wpList_load_mid rfl 29 (.tmp 22) rfl w.heap.size 0 rfl (bytes key).toList _ HC1.out.k Try.underlying29 rfl HIK.out ?_)
    | (refine wpList_load_mid rfl 31 (.tmp 26) rfl w.heap.size 33 rfl (bytes nonce).toList _ HC1.out.n Try.underlying31 rfl HIN.out ?_)
    | (go_at_call 14; refine (HST.out c b _ _ HS1.out (by have := HBN.out; omega) HF.out).mono ?_; rintro e w1 ⟨v1, rfl, ho, hb⟩; have HO1 := Lib.hid ho; have HB1 := Lib.hid hb; clear ho hb))
  have h1 := HB1.out.size
  have hzW := HX.out.2.1
  have hca := HC1.out.kept (Kept.ofBelow (l := []) HB1.out (Nat.le_refl _)) (by omega) (by simp)
  have HC2 := Lib.hid hca
  have cc2 := hca.c
  have HS2 := Lib.hid (HS1.out.below HB1.out (Nat.le_refl _))
  have hsl := Cha.stream_length key c nonce b
  have HSL := Lib.hid (hsl.trans HBN.out)
  obtain ⟨a1, cap1, rfl⟩ := HO1.out.sl.len
  have hbd1 := HO1.out.sl.bounds.2
  rw [HSL.out] at HO1 hbd1 ⊢
  have HSB := Lib.hid (Cha.stream_back key c nonce b)
  have HSX := Lib.hid (HST.out c (Cha.stream key c nonce b) _ _ HO1.out.sl (by rw [HSL.out]; omega) (by rw [HSL.out, ← HBN.out]; exact HF.out))
  rw [HSB.out] at HSX
  clear hca cc1 hzW hsl
  go_upto_region 8 with (first
    | (refine wpList_load_mid rfl 29 (.tmp 45) rfl w.heap.size 0 rfl (bytes key).toList _ HC2.out.k Try.underlying29 rfl HIK.out ?_)
    | (refine wpList_load_mid rfl 31 (.tmp 49) rfl w.heap.size 33 rfl (bytes nonce).toList _ HC2.out.n Try.underlying31 rfl HIN.out ?_)
    | (go_at_call 14; refine HSX.out.mono ?_; rintro e w2 ⟨v2, rfl, ho, hb⟩; have HO2 := Lib.hid ho; have HB2 := Lib.hid hb; clear ho hb))
  rw [hkc]
  have h2 := HB2.out.size
  have hzW := HX.out.2.1
  have hca := (HC2.out.kept (Kept.ofBelow (l := []) HB2.out (Nat.le_refl _)) (by omega) (by simp)).kept (Kept.refl [] w2).drew (by omega) (by simp)
  have cc3 := hca.c
  have HCA := Lib.hid hca
  have HS3 := Lib.hid ((HS2.out.below HB2.out (Nat.le_refl _)).drew)
  have HX3 := Lib.hid (HO1.out.sl.below HB2.out (Nat.le_refl _)).drew
  have hkc' : k ≤ cap := by omega
  have kw : IntKind.i64.wrap (k : Int) = k := by rw [IntKind.wrap_i64]; omega
  have HSK := Lib.hid (HST.out c (b.take k) _ _ (HS3.out.upTo k hkn) (by rw [List.length_take, HBN.out]; omega) (Cha.fits_take _ _ _ HF.out (by rw [List.length_take]; omega)))
  clear hca cc2 hzW
  refine wp_region_held_drew (S := fun w' => w'.rangeAt w.heap.size 0 (bytes key).toList ∧ w'.rangeAt w.heap.size 33 (bytes nonce).toList ∧ w'.cell? ⟨w.heap.size, 32, none⟩ = some (.int .u32 (wv c))) (by kernel_rfl) ⟨HCA.out.k, HCA.out.n, HCA.out.c⟩ (fun hHeld => ?_)
  refine wpAnyH_take (i := 0) (v := ?v1) rfl (by kernel_rfl) (by kernel_rfl) (by kernel_rfl) (fun _ _ _ h => h) (Or.inl ⟨by rfl, ?y1⟩) (by assumption) ?r1
  case y1 =>
    intro w' hSw
    go_split_ands
    go_simp
    try with_reducible rfl
  try simp only [List.getElem_toArray, List.getElem_cons_zero, List.getElem_cons_succ, Act.put, List.setIfInBounds_toArray, List.set_cons_zero, List.set_cons_succ]
  refine wpAnyH_take (i := 1) rfl (by kernel_rfl) (by kernel_rfl) (by kernel_rfl) (fun _ _ _ h => h) (yieldsIf_load_mid (by rfl) 29 (.tmp 62) rfl _ _ rfl (bytes key).toList _ (fun _ h => h.1) Try.underlying29 rfl HIK.out) (by assumption) ?_
  try simp only [List.getElem_toArray, List.getElem_cons_zero, List.getElem_cons_succ, Act.put, List.setIfInBounds_toArray, List.set_cons_zero, List.set_cons_succ]
  refine wpAnyH_take (i := 2) (v := ?v2) rfl (by kernel_rfl) (by kernel_rfl) (by kernel_rfl) (fun _ _ _ h => h) (Or.inl ⟨by rfl, ?y2⟩) (by assumption) ?r2
  case y2 =>
    intro w' hSw
    go_split_ands
    go_simp
    try with_reducible rfl
  try simp only [List.getElem_toArray, List.getElem_cons_zero, List.getElem_cons_succ, Act.put, List.setIfInBounds_toArray, List.set_cons_zero, List.set_cons_succ]
  refine wpAnyH_take (i := 3) (v := ?v3) rfl (by kernel_rfl) (by kernel_rfl) (by kernel_rfl) (fun _ _ _ h => h) (Or.inl ⟨by rfl, ?y3⟩) (by assumption) ?r3
  case y3 =>
    intro w' hSw
    go_split_ands
    go_simp
    try with_reducible rfl
  try simp only [List.getElem_toArray, List.getElem_cons_zero, List.getElem_cons_succ, Act.put, List.setIfInBounds_toArray, List.set_cons_zero, List.set_cons_succ]
  refine wpAnyH_take (i := 4) (v := ?v4) rfl (by kernel_rfl) (by kernel_rfl) (by kernel_rfl) (fun _ _ _ h => h) (Or.inl ⟨by rfl, ?y4⟩) (by assumption) ?r4
  case y4 =>
    intro w' hSw
    go_split_ands
    go_simp
    try with_reducible rfl
  try simp only [List.getElem_toArray, List.getElem_cons_zero, List.getElem_cons_succ, Act.put, List.setIfInBounds_toArray, List.set_cons_zero, List.set_cons_succ]
  refine wpAnyH_take (i := 5) rfl (by kernel_rfl) (by kernel_rfl) (by kernel_rfl) (fun _ _ _ h => h) (yieldsIf_load_mid (by rfl) 31 (.tmp 66) rfl _ _ rfl (bytes nonce).toList _ (fun _ h => h.2.1) Try.underlying31 rfl HIN.out) (by assumption) ?_
  try simp only [List.getElem_toArray, List.getElem_cons_zero, List.getElem_cons_succ, Act.put, List.setIfInBounds_toArray, List.set_cons_zero, List.set_cons_succ]
  refine wpAnyH_take (i := 6) (v := ?v5) rfl (by kernel_rfl) (by kernel_rfl) (by kernel_rfl) (fun _ _ _ h => h) (Or.inl ⟨by rfl, ?y5⟩) (by assumption) ?r5
  case y5 =>
    intro w' hSw
    go_split_ands
    go_simp
    try with_reducible rfl
  try simp only [List.getElem_toArray, List.getElem_cons_zero, List.getElem_cons_succ, Act.put, List.setIfInBounds_toArray, List.set_cons_zero, List.set_cons_succ]
  refine wpAnyH_take (i := 7) (v := ?v6) rfl (by kernel_rfl) (by kernel_rfl) (by kernel_rfl) (fun _ _ _ h => h) (Or.inl ⟨by rfl, ?y6⟩) (by assumption) ?r6
  case y6 =>
    intro w' hSw
    go_split_ands
    go_simp
    try with_reducible rfl
  try simp only [List.getElem_toArray, List.getElem_cons_zero, List.getElem_cons_succ, Act.put, List.setIfInBounds_toArray, List.set_cons_zero, List.set_cons_succ]
  refine wpAnyH_take (i := 8) (v := ?v7) rfl (by kernel_rfl) (by kernel_rfl) (by kernel_rfl) (fun _ _ _ h => h) (Or.inl ⟨by rfl, ?y7⟩) (by assumption) ?r7
  case y7 =>
    intro w' hSw
    go_split_ands
    go_simp
    try with_reducible rfl
  try simp only [List.getElem_toArray, List.getElem_cons_zero, List.getElem_cons_succ, Act.put, List.setIfInBounds_toArray, List.set_cons_zero, List.set_cons_succ]
  refine wpAnyH_ready (rs := [9]) (by kernel_rfl) (by simp) ?_
  refine AllReadyH.cons (i := 9) rfl (fun K hK => ?_) AllReadyH.nil
  go_simp
  go_at_call 14
  refine HSK.out.mono ?_
  rintro e w3 ⟨v3, rfl, ho, hb⟩
  have HO3 := Lib.hid ho
  have HB3 := Lib.hid (show Below w2.heap.size w2 w3 from (Below.refl _ w2).drew.trans hb)
  have hca3 := HCA.out.kept (Kept.ofBelow (l := []) hb (Nat.le_refl _)) (by show w.heap.size < w2.heap.size; have := HX.out.2.1; omega) (by simp)
  clear ho hb
  refine hK.out _ _ ⟨hca3.k, hca3.n, hca3.c⟩ (fun hHeld' => ?_)
  clear hHeld hK K
  have hHeld := hHeld'
  clear hHeld'
  try simp only [List.getElem_toArray, List.getElem_cons_zero, List.getElem_cons_succ, Act.put, List.setIfInBounds_toArray, List.set_cons_zero, List.set_cons_succ]
  refine wpAnyH_take (i := 10) (v := ?v8) rfl (by kernel_rfl) (by kernel_rfl) (by kernel_rfl) (fun _ _ _ h => h) (Or.inl ⟨by rfl, ?y8⟩) (by assumption) ?r8
  case y8 =>
    intro w' hSw
    go_split_ands
    go_simp
    try with_reducible rfl
  try simp only [List.getElem_toArray, List.getElem_cons_zero, List.getElem_cons_succ, Act.put, List.setIfInBounds_toArray, List.set_cons_zero, List.set_cons_succ]
  refine wpAnyH_take (i := 11) (v := ?v9) rfl (by kernel_rfl) (by kernel_rfl) (by kernel_rfl) (fun _ _ _ h => h) (Or.inl ⟨by rfl, ?y9⟩) (by assumption) ?r9
  case y9 =>
    intro w' hSw
    go_split_ands
    go_simp
    try with_reducible rfl
  try simp only [List.getElem_toArray, List.getElem_cons_zero, List.getElem_cons_succ, Act.put, List.setIfInBounds_toArray, List.set_cons_zero, List.set_cons_succ]
  refine wpAnyH_take (i := 12) (v := ?v10) rfl (by kernel_rfl) (by kernel_rfl) (by kernel_rfl) (fun _ _ _ h => h) (Or.inl ⟨by rfl, ?y10⟩) (by assumption) ?r10
  case y10 =>
    intro w' hSw
    go_split_ands
    go_simp
    try with_reducible rfl
  try simp only [List.getElem_toArray, List.getElem_cons_zero, List.getElem_cons_succ, Act.put, List.setIfInBounds_toArray, List.set_cons_zero, List.set_cons_succ]
  refine wpAnyH_take (i := 13) (v := ?v11) rfl (by kernel_rfl) (by kernel_rfl) (by kernel_rfl) (fun _ _ _ h => h) (Or.inl ⟨by rfl, ?y11⟩) (by assumption) ?r11
  case y11 =>
    intro w' hSw
    go_split_ands
    go_simp
    try with_reducible rfl
  try simp only [List.getElem_toArray, List.getElem_cons_zero, List.getElem_cons_succ, Act.put, List.setIfInBounds_toArray, List.set_cons_zero, List.set_cons_succ]
  refine wpAnyH_take (i := 14) (v := ?v12) rfl (by kernel_rfl) (by kernel_rfl) (by kernel_rfl) (fun _ _ _ h => h) (Or.inl ⟨by rfl, ?y12⟩) (by assumption) ?r12
  case y12 =>
    intro w' hSw
    go_split_ands
    go_simp
    try with_reducible rfl
  try simp only [List.getElem_toArray, List.getElem_cons_zero, List.getElem_cons_succ, Act.put, List.setIfInBounds_toArray, List.set_cons_zero, List.set_cons_succ]
  refine wpAnyH_done (by kernel_rfl) ?_ _
  have h3 := HB3.out.size
  have hst := Cha.stream_take key c nonce b k
  rw [hst] at HO3
  have b3 : Below W.heap.size W w3 := HB1.out.trans ((HB2.out.trans (HB3.out.mono h2)).mono h1)
  have HB03 := Lib.hid b3
  have HXS := Lib.hid (HO1.out.sl.below (HB2.out.trans (HB3.out.mono h2)) (Nat.le_refl _))
  have hkc1 : k ≤ cap1 := by omega
  have HY3 := HO2.out.sl.below HB3.out (Nat.le_refl _)
  have HZ3 := HO3.out.sl
  obtain ⟨a2, cap2, rfl⟩ := HO2.out.sl.len
  obtain ⟨a3, cap3, rfl⟩ := HO3.out.sl.len
  rw [show ((Cha.stream key c nonce b).take k).length = k by rw [List.length_take, HSL.out]; omega] at HO3 HZ3 ⊢
  rw [HBN.out] at HO2 HY3 ⊢
  have hy := fun m => conv_any (HY3.drewN m)
  have hv := fun m => conv_any ((HS1.out.below b3 (Nat.le_refl _)).drewN m)
  have hz := fun m => conv_any (HZ3.drewN m)
  have hx := fun m => conv_any ((HXS.out.upTo k hkn).drewN m)
  clear HY3 HZ3
  clear hHeld hst b3 hc0 hc1 HSK HSX HC1 HC2 HCA
  go_upto_region 9 with fail
  go_cut [102] (fun s wx => s = .bool false ∧ Hid (Below w3.heap.size w3 wx))
  case first =>
    go_quiet (fail)
    go_wp2_with fail
    go_meet
    case rel => exact ⟨rfl, Lib.hid (Below.drewN (Below.refl _ _) _)⟩
  case rest =>
    obtain ⟨rfl, HB4⟩ := hcut
    clear hy hv hz hx
    have h4 := HB4.out.size
    have b4 := HB03.out.trans (HB4.out.mono HB03.out.size)
    have hC4 : w.heap.size < wc.heap.size := by have := HX.out.2.1; omega
    have HCA4 := Lib.hid (HX.out.2.2.kept (Kept.ofBelow (l := []) b4 (Nat.le_refl _)) (by have := HX.out.2.1; omega) (by simp))
    have HS4 := Lib.hid (HS1.out.below b4 (Nat.le_refl _))
    have HX4 := Lib.hid (HXS.out.below HB4.out (Nat.le_refl _))
    have HBW := Lib.hid (HX.out.1.trans (b4.mono (by have := HX.out.2.1; omega)))
    clear b4 cc3
    obtain ⟨q, hq, hqn, hqk⟩ : ∃ q : Nat, (k : Int) / 64 = q ∧ 64 * q ≤ n ∧ q ≤ 100 := ⟨k / 64, by omega, by omega, by omega⟩
    clear hkc hkc' kw hkc1
    go_upto_region 12 with fail
    clear hq
    have w1 : IntKind.i64.wrap (64 * (q : Int)) = 64 * q := by rw [IntKind.wrap_i64]; omega
    have w2' : IntKind.u32.wrap (q : Int) = q := by rw [wrap_u32_mod]; omega
    have w3' : IntKind.u32.wrap (wv c + (q : Int)) = wv (c + BitVec.ofNat 32 q) := by
      unfold wv
      rw [wrap_u32_mod, BitVec.toNat_add, BitVec.toNat_ofNat]
      omega
    have hlq : (64 * (q : Int)).toNat = 64 * q := by omega
    have hlq0 : (0 : Int) ≤ 64 * (q : Int) := by omega
    have hU := HS4.out.from_ (64 * q) hqn
    have HSQ := Lib.hid (HST.out (c + BitVec.ofNat 32 q) (b.drop (64 * q)) _ wc.drew hU.drew (by rw [List.length_drop, HBN.out]; omega) (by
      rw [List.length_drop]
      by_cases h : 64 * q < b.length
      · exact Cha.fits_drop _ _ _ HF.out h
      · rw [show b.length - 64 * q = 0 by omega]; simp [Cha.fits]))
    rw [Cha.stream_drop] at HSQ
    unfold fromV at HSQ
    have hcq : 64 * q ≤ cap := by omega
    have hqi : 64 * (q : Int) ≤ (n : Int) := by omega
    clear hU
    refine wp_region_held_drew (S := fun w' => w'.rangeAt w.heap.size 0 (bytes key).toList ∧ w'.rangeAt w.heap.size 33 (bytes nonce).toList ∧ w'.cell? ⟨w.heap.size, 32, none⟩ = some (.int .u32 (wv c))) (by kernel_rfl) ⟨HCA4.out.k, HCA4.out.n, HCA4.out.c⟩ (fun hHeld => ?_)
    refine wpAnyH_take (i := 0) (v := ?v101) rfl (by kernel_rfl) (by kernel_rfl) (by kernel_rfl) (fun _ _ _ h => h) (Or.inl ⟨by rfl, ?y101⟩) (by assumption) ?r101
    case y101 =>
      intro w' hSw
      go_split_ands
      go_simp
      try with_reducible rfl
    try simp only [List.getElem_toArray, List.getElem_cons_zero, List.getElem_cons_succ, Act.put, List.setIfInBounds_toArray, List.set_cons_zero, List.set_cons_succ]
    refine wpAnyH_take (i := 1) rfl (by kernel_rfl) (by kernel_rfl) (by kernel_rfl) (fun _ _ _ h => h) (yieldsIf_load_mid (by rfl) 29 (.tmp 106) rfl _ _ rfl (bytes key).toList _ (fun _ h => h.1) Try.underlying29 rfl HIK.out) (by assumption) ?_
    try simp only [List.getElem_toArray, List.getElem_cons_zero, List.getElem_cons_succ, Act.put, List.setIfInBounds_toArray, List.set_cons_zero, List.set_cons_succ]
    refine wpAnyH_take (i := 2) (v := ?v102) rfl (by kernel_rfl) (by kernel_rfl) (by kernel_rfl) (fun _ _ _ h => h) (Or.inl ⟨by rfl, ?y102⟩) (by assumption) ?r102
    case y102 =>
      intro w' hSw
      go_split_ands
      go_simp
      try with_reducible rfl
    try simp only [List.getElem_toArray, List.getElem_cons_zero, List.getElem_cons_succ, Act.put, List.setIfInBounds_toArray, List.set_cons_zero, List.set_cons_succ]
    refine wpAnyH_take (i := 3) (v := ?v103) rfl (by kernel_rfl) (by kernel_rfl) (by kernel_rfl) (fun _ _ _ h => h) (Or.inl ⟨by rfl, ?y103⟩) (by assumption) ?r103
    case y103 =>
      intro w' hSw
      go_split_ands
      go_simp
      try with_reducible rfl
    try simp only [List.getElem_toArray, List.getElem_cons_zero, List.getElem_cons_succ, Act.put, List.setIfInBounds_toArray, List.set_cons_zero, List.set_cons_succ]
    refine wpAnyH_take (i := 4) (v := ?v104) rfl (by kernel_rfl) (by kernel_rfl) (by kernel_rfl) (fun _ _ _ h => h) (Or.inl ⟨by rfl, ?y104⟩) (by assumption) ?r104
    case y104 =>
      intro w' hSw
      go_split_ands
      go_simp
      try with_reducible rfl
    try simp only [List.getElem_toArray, List.getElem_cons_zero, List.getElem_cons_succ, Act.put, List.setIfInBounds_toArray, List.set_cons_zero, List.set_cons_succ]
    refine wpAnyH_take (i := 5) (v := ?v105) rfl (by kernel_rfl) (by kernel_rfl) (by kernel_rfl) (fun _ _ _ h => h) (Or.inl ⟨by rfl, ?y105⟩) (by assumption) ?r105
    case y105 =>
      intro w' hSw
      go_split_ands
      go_simp
      try with_reducible rfl
    try simp only [List.getElem_toArray, List.getElem_cons_zero, List.getElem_cons_succ, Act.put, List.setIfInBounds_toArray, List.set_cons_zero, List.set_cons_succ]
    refine wpAnyH_take (i := 6) (v := ?v106) rfl (by kernel_rfl) (by kernel_rfl) (by kernel_rfl) (fun _ _ _ h => h) (Or.inl ⟨by rfl, ?y106⟩) (by assumption) ?r106
    case y106 =>
      intro w' hSw
      go_split_ands
      go_simp
      try with_reducible rfl
    try simp only [List.getElem_toArray, List.getElem_cons_zero, List.getElem_cons_succ, Act.put, List.setIfInBounds_toArray, List.set_cons_zero, List.set_cons_succ]
    refine wpAnyH_take (i := 7) (v := ?v107) rfl (by kernel_rfl) (by kernel_rfl) (by kernel_rfl) (fun _ _ _ h => h) (Or.inl ⟨by rfl, ?y107⟩) (by assumption) ?r107
    case y107 =>
      intro w' hSw
      go_split_ands
      go_simp
      try with_reducible rfl
    try simp only [List.getElem_toArray, List.getElem_cons_zero, List.getElem_cons_succ, Act.put, List.setIfInBounds_toArray, List.set_cons_zero, List.set_cons_succ]
    refine wpAnyH_take (i := 8) rfl (by kernel_rfl) (by kernel_rfl) (by kernel_rfl) (fun _ _ _ h => h) (yieldsIf_load_mid (by rfl) 31 (.tmp 113) rfl _ _ rfl (bytes nonce).toList _ (fun _ h => h.2.1) Try.underlying31 rfl HIN.out) (by assumption) ?_
    try simp only [List.getElem_toArray, List.getElem_cons_zero, List.getElem_cons_succ, Act.put, List.setIfInBounds_toArray, List.set_cons_zero, List.set_cons_succ]
    refine wpAnyH_take (i := 9) (v := ?v108) rfl (by kernel_rfl) (by kernel_rfl) (by kernel_rfl) (fun _ _ _ h => h) (Or.inl ⟨by rfl, ?y108⟩) (by assumption) ?r108
    case y108 =>
      intro w' hSw
      go_split_ands
      go_simp
      try with_reducible rfl
    try simp only [List.getElem_toArray, List.getElem_cons_zero, List.getElem_cons_succ, Act.put, List.setIfInBounds_toArray, List.set_cons_zero, List.set_cons_succ]
    refine wpAnyH_take (i := 10) (v := ?v109) rfl (by kernel_rfl) (by kernel_rfl) (by kernel_rfl) (fun _ _ _ h => h) (Or.inl ⟨by rfl, ?y109⟩) (by assumption) ?r109
    case y109 =>
      intro w' hSw
      go_split_ands
      go_simp
      try with_reducible rfl
    try simp only [List.getElem_toArray, List.getElem_cons_zero, List.getElem_cons_succ, Act.put, List.setIfInBounds_toArray, List.set_cons_zero, List.set_cons_succ]
    refine wpAnyH_take (i := 11) (v := ?v110) rfl (by kernel_rfl) (by kernel_rfl) (by kernel_rfl) (fun _ _ _ h => h) (Or.inl ⟨by rfl, ?y110⟩) (by assumption) ?r110
    case y110 =>
      intro w' hSw
      go_split_ands
      go_simp
      try with_reducible rfl
    try simp only [List.getElem_toArray, List.getElem_cons_zero, List.getElem_cons_succ, Act.put, List.setIfInBounds_toArray, List.set_cons_zero, List.set_cons_succ]
    refine wpAnyH_take (i := 12) (v := ?v111) rfl (by kernel_rfl) (by kernel_rfl) (by kernel_rfl) (fun _ _ _ h => h) (Or.inl ⟨by rfl, ?y111⟩) (by assumption) ?r111
    case y111 =>
      intro w' hSw
      go_split_ands
      go_simp
      try with_reducible rfl
    try simp only [List.getElem_toArray, List.getElem_cons_zero, List.getElem_cons_succ, Act.put, List.setIfInBounds_toArray, List.set_cons_zero, List.set_cons_succ]
    refine wpAnyH_ready (rs := [13]) (by kernel_rfl) (by simp) ?_
    refine AllReadyH.cons (i := 13) rfl (fun K hK => ?_) AllReadyH.nil
    go_simp
    go_at_call 14
    refine HSQ.out.mono ?_
    rintro e w5 ⟨v5, rfl, ho, hb⟩
    have HO5 := Lib.hid ho
    have HB5 := Lib.hid (show Below wc.heap.size wc w5 from (Below.refl _ wc).drew.trans hb)
    have hca5 := HCA4.out.kept (Kept.ofBelow (l := []) HB5.out (Nat.le_refl _)) hC4 (by simp)
    clear ho hb
    refine hK.out _ _ ⟨hca5.k, hca5.n, hca5.c⟩ (fun hHeld' => ?_)
    clear hHeld hK K
    have hHeld := hHeld'
    clear hHeld'
    try simp only [List.getElem_toArray, List.getElem_cons_zero, List.getElem_cons_succ, Act.put, List.setIfInBounds_toArray, List.set_cons_zero, List.set_cons_succ]
    refine wpAnyH_take (i := 14) (v := ?v112) rfl (by kernel_rfl) (by kernel_rfl) (by kernel_rfl) (fun _ _ _ h => h) (Or.inl ⟨by rfl, ?y112⟩) (by assumption) ?r112
    case y112 =>
      intro w' hSw
      go_split_ands
      go_simp
      try with_reducible rfl
    try simp only [List.getElem_toArray, List.getElem_cons_zero, List.getElem_cons_succ, Act.put, List.setIfInBounds_toArray, List.set_cons_zero, List.set_cons_succ]
    refine wpAnyH_take (i := 15) (v := ?v113) rfl (by kernel_rfl) (by kernel_rfl) (by kernel_rfl) (fun _ _ _ h => h) (Or.inl ⟨by rfl, ?y113⟩) (by assumption) ?r113
    case y113 =>
      intro w' hSw
      go_split_ands
      go_simp
      try with_reducible rfl
    try simp only [List.getElem_toArray, List.getElem_cons_zero, List.getElem_cons_succ, Act.put, List.setIfInBounds_toArray, List.set_cons_zero, List.set_cons_succ]
    refine wpAnyH_take (i := 16) (v := ?v114) rfl (by kernel_rfl) (by kernel_rfl) (by kernel_rfl) (fun _ _ _ h => h) (Or.inl ⟨by rfl, ?y114⟩) (by assumption) ?r114
    case y114 =>
      intro w' hSw
      go_split_ands
      go_simp
      try with_reducible rfl
    try simp only [List.getElem_toArray, List.getElem_cons_zero, List.getElem_cons_succ, Act.put, List.setIfInBounds_toArray, List.set_cons_zero, List.set_cons_succ]
    refine wpAnyH_take (i := 17) (v := ?v115) rfl (by kernel_rfl) (by kernel_rfl) (by kernel_rfl) (fun _ _ _ h => h) (Or.inl ⟨by rfl, ?y115⟩) (by assumption) ?r115
    case y115 =>
      intro w' hSw
      go_split_ands
      go_simp
      try with_reducible rfl
    try simp only [List.getElem_toArray, List.getElem_cons_zero, List.getElem_cons_succ, Act.put, List.setIfInBounds_toArray, List.set_cons_zero, List.set_cons_succ]
    refine wpAnyH_take (i := 18) (v := ?v116) rfl (by kernel_rfl) (by kernel_rfl) (by kernel_rfl) (fun _ _ _ h => h) (Or.inl ⟨by rfl, ?y116⟩) (by assumption) ?r116
    case y116 =>
      intro w' hSw
      go_split_ands
      go_simp
      try with_reducible rfl
    try simp only [List.getElem_toArray, List.getElem_cons_zero, List.getElem_cons_succ, Act.put, List.setIfInBounds_toArray, List.set_cons_zero, List.set_cons_succ]
    refine wpAnyH_done (by kernel_rfl) ?_ _
    have h5 := HB5.out.size
    have HBE := Lib.hid (HBW.out.trans (HB5.out.mono HBW.out.size))
    have HXF := Lib.hid ((HX4.out.below HB5.out (Nat.le_refl _)).from_ (64 * q) hqn)
    unfold fromV at HXF
    clear hHeld HSQ w3' w2'
    by_cases h : 64 * q = n
    · have h' : (64 * (q : Int) == (n : Int)) = true := by simp; omega
      clear w1 hlq
      go_wp2_with (go_at_call 10; refine (HAW.out _).mono ?_; rintro e w6 ⟨rfl, hbw⟩)
      all_goals first
        | (exfalso; omega)
        | (go_ret; exact ⟨rfl, HBE.out.trans (hbw.mono HBE.out.size)⟩)
    · have h' : (64 * (q : Int) == (n : Int)) = false := by simp; omega
      have hcq1 : 64 * q ≤ cap1 := by omega
      go_upto_region 15 with fail
      go_cut [6] (fun s wx => s = .bool true ∧ Hid (Below w5.heap.size w5 wx))
      case first =>
        refine wp_region_held_drew (S := fun w' => (convert 40 9 v5).run Try.prog w' = .ok (.string (strB ((Cha.stream key c nonce b).drop (64 * q)))) w' ∧ (convert 40 9 (.slice (if cap1 = 64 * q then a1 else a1.map (fun x => x.add (64 * q))) (n - 64 * q) (cap1 - 64 * q))).run Try.prog w' = .ok (.string (strB ((Cha.stream key c nonce b).drop (64 * q)))) w') (by kernel_rfl) ⟨conv_any HO5.out.sl.drew, conv_any HXF.out.drew⟩ (fun hHeld => ?_)
        refine wpAnyH_take (i := 0) (v := ?v117) rfl (by kernel_rfl) (by kernel_rfl) (by kernel_rfl) (fun _ _ _ h => h) (Or.inl ⟨by rfl, ?y117⟩) (by assumption) ?r117
        case y117 =>
          intro w' hSw
          go_split_ands
          go_simp
          try with_reducible rfl
        try simp only [List.getElem_toArray, List.getElem_cons_zero, List.getElem_cons_succ, Act.put, List.setIfInBounds_toArray, List.set_cons_zero, List.set_cons_succ]
        refine wpAnyH_take (i := 1) (v := ?v118) rfl (by kernel_rfl) (by kernel_rfl) (by kernel_rfl) (fun _ _ _ h => h) (Or.inl ⟨by rfl, ?y118⟩) (by assumption) ?r118
        case y118 =>
          intro w' hSw
          go_split_ands
          go_simp
          try with_reducible rfl
        try simp only [List.getElem_toArray, List.getElem_cons_zero, List.getElem_cons_succ, Act.put, List.setIfInBounds_toArray, List.set_cons_zero, List.set_cons_succ]
        refine wpAnyH_take (i := 2) (v := ?v119) rfl (by kernel_rfl) (by kernel_rfl) (by kernel_rfl) (fun _ _ _ h => h) (Or.inl ⟨by rfl, ?y119⟩) (by assumption) ?r119
        case y119 =>
          intro w' hSw
          go_split_ands
          go_simp
          try with_reducible rfl
        try simp only [List.getElem_toArray, List.getElem_cons_zero, List.getElem_cons_succ, Act.put, List.setIfInBounds_toArray, List.set_cons_zero, List.set_cons_succ]
        refine wpAnyH_take (i := 3) (v := ?v120) rfl (by kernel_rfl) (by kernel_rfl) (by kernel_rfl) (fun _ _ _ h => h) (Or.inl ⟨by rfl, ?y120⟩) (by assumption) ?r120
        case y120 =>
          intro w' hSw
          go_split_ands
          go_simp
          try with_reducible rfl
        try simp only [List.getElem_toArray, List.getElem_cons_zero, List.getElem_cons_succ, Act.put, List.setIfInBounds_toArray, List.set_cons_zero, List.set_cons_succ]
        refine wpAnyH_take (i := 4) (v := ?v121) rfl (by kernel_rfl) (by kernel_rfl) (by kernel_rfl) (fun _ _ _ h => h) (Or.inl ⟨by rfl, ?y121⟩) (by assumption) ?r121
        case y121 =>
          intro w' hSw
          go_split_ands
          go_simp
          try with_reducible rfl
        try simp only [List.getElem_toArray, List.getElem_cons_zero, List.getElem_cons_succ, Act.put, List.setIfInBounds_toArray, List.set_cons_zero, List.set_cons_succ]
        refine wpAnyH_take (i := 5) (v := ?v122) rfl (by kernel_rfl) (by kernel_rfl) (by kernel_rfl) (fun _ _ _ h => h) (Or.inl ⟨by rfl, ?y122⟩) (by assumption) ?r122
        case y122 =>
          intro w' hSw
          go_split_ands
          go_simp
          try with_reducible rfl
        try simp only [List.getElem_toArray, List.getElem_cons_zero, List.getElem_cons_succ, Act.put, List.setIfInBounds_toArray, List.set_cons_zero, List.set_cons_succ]
        refine wpAnyH_take (i := 6) (v := ?v123) rfl (by kernel_rfl) (by kernel_rfl) (by kernel_rfl) (fun _ _ _ h => h) (Or.inl ⟨by rfl, ?y123⟩) (by assumption) ?r123
        case y123 =>
          intro w' hSw
          go_split_ands
          go_simp
          try with_reducible rfl
        try simp only [List.getElem_toArray, List.getElem_cons_zero, List.getElem_cons_succ, Act.put, List.setIfInBounds_toArray, List.set_cons_zero, List.set_cons_succ]
        refine wpAnyH_take (i := 7) (v := ?v124) rfl (by kernel_rfl) (by kernel_rfl) (by kernel_rfl) (fun _ _ _ h => h) (Or.inl ⟨by rfl, ?y124⟩) (by assumption) ?r124
        case y124 =>
          intro w' hSw
          go_split_ands
          go_simp
          try with_reducible rfl
        try simp only [List.getElem_toArray, List.getElem_cons_zero, List.getElem_cons_succ, Act.put, List.setIfInBounds_toArray, List.set_cons_zero, List.set_cons_succ]
        refine wpAnyH_take (i := 8) (v := ?v125) rfl (by kernel_rfl) (by kernel_rfl) (by kernel_rfl) (fun _ _ _ h => h) (Or.inl ⟨by rfl, ?y125⟩) (by assumption) ?r125
        case y125 =>
          intro w' hSw
          go_split_ands
          go_simp
          try with_reducible rfl
        try simp only [List.getElem_toArray, List.getElem_cons_zero, List.getElem_cons_succ, Act.put, List.setIfInBounds_toArray, List.set_cons_zero, List.set_cons_succ]
        refine wpAnyH_take (i := 9) (v := ?v126) rfl (by kernel_rfl) (by kernel_rfl) (by kernel_rfl) (fun _ _ _ h => h) (Or.inl ⟨by rfl, ?y126⟩) (by assumption) ?r126
        case y126 =>
          intro w' hSw
          go_split_ands
          go_simp
          try with_reducible rfl
        try simp only [List.getElem_toArray, List.getElem_cons_zero, List.getElem_cons_succ, Act.put, List.setIfInBounds_toArray, List.set_cons_zero, List.set_cons_succ]
        refine wpAnyH_take (i := 10) (v := ?v127) rfl (by kernel_rfl) (by kernel_rfl) (by kernel_rfl) (fun _ _ _ h => h) (Or.inl ⟨by rfl, ?y127⟩) (by assumption) ?r127
        case y127 =>
          intro w' hSw
          go_split_ands
          go_simp
          try with_reducible rfl
        try simp only [List.getElem_toArray, List.getElem_cons_zero, List.getElem_cons_succ, Act.put, List.setIfInBounds_toArray, List.set_cons_zero, List.set_cons_succ]
        refine wpAnyH_take (i := 11) (v := ?v128) rfl (by kernel_rfl) (by kernel_rfl) (by kernel_rfl) (fun _ _ _ h => h) (Or.inl ⟨by rfl, ?y128⟩) (by assumption) ?r128
        case y128 =>
          intro w' hSw
          go_split_ands
          go_simp
          try with_reducible rfl
        try simp only [List.getElem_toArray, List.getElem_cons_zero, List.getElem_cons_succ, Act.put, List.setIfInBounds_toArray, List.set_cons_zero, List.set_cons_succ]
        refine wpAnyH_take (i := 12) (v := ?v129) rfl (by kernel_rfl) (by kernel_rfl) (by kernel_rfl) (fun _ _ _ h => h) (Or.inl ⟨by rfl, ?y129⟩) (by assumption) ?r129
        case y129 =>
          intro w' hSw
          go_split_ands
          go_simp
          try with_reducible rfl
        try simp only [List.getElem_toArray, List.getElem_cons_zero, List.getElem_cons_succ, Act.put, List.setIfInBounds_toArray, List.set_cons_zero, List.set_cons_succ]
        refine wpAnyH_ready (rs := [13]) (by kernel_rfl) (by simp) ?_
        refine AllReadyH.cons (i := 13) rfl (fun K hK => ?_) AllReadyH.nil
        go_simp
        go_at_call 10
        refine (HAW.out _).mono ?_
        rintro e w6 ⟨rfl, hbw⟩
        have hb6 : Below w5.heap.size w5 w6 := (Below.refl _ w5).drew.trans hbw
        have HB6 := Lib.hid hb6
        have hS6 := And.intro (conv_any (HO5.out.sl.below hb6 (Nat.le_refl _))) (conv_any (HXF.out.below hb6 (Nat.le_refl _)))
        clear hbw hb6
        refine hK.out _ _ hS6 (fun hHeld' => ?_)
        clear hHeld hK K
        have hHeld := hHeld'
        clear hHeld'
        try simp only [List.getElem_toArray, List.getElem_cons_zero, List.getElem_cons_succ, Act.put, List.setIfInBounds_toArray, List.set_cons_zero, List.set_cons_succ]
        refine wpAnyH_take (i := 14) (v := ?v130) rfl (by kernel_rfl) (by kernel_rfl) (by kernel_rfl) (fun _ _ _ h => h) (Or.inl ⟨by rfl, ?y130⟩) (by assumption) ?r130
        case y130 =>
          intro w' hSw
          go_split_ands
          go_simp
          try with_reducible rfl
        try simp only [List.getElem_toArray, List.getElem_cons_zero, List.getElem_cons_succ, Act.put, List.setIfInBounds_toArray, List.set_cons_zero, List.set_cons_succ]
        refine wpAnyH_take (i := 15) (v := ?v131) rfl (by kernel_rfl) (by kernel_rfl) (by kernel_rfl) (fun _ _ _ h => h) (Or.inl ⟨by rfl, ?y131⟩) (by assumption) ?r131
        case y131 =>
          intro w' hSw
          go_split_ands
          go_simp
          try with_reducible rfl
        try simp only [List.getElem_toArray, List.getElem_cons_zero, List.getElem_cons_succ, Act.put, List.setIfInBounds_toArray, List.set_cons_zero, List.set_cons_succ]
        refine wpAnyH_done (by kernel_rfl) ?_ _
        go_wp2_with fail
        go_meet
        exact ⟨rfl, HB6⟩
      case rest =>
        obtain ⟨rfl, HB6⟩ := hcut
        go_wp2
        go_ret
        exact ⟨rfl, HBE.out.trans (HB6.out.mono HBE.out.size)⟩
end Go.Proofs.Ytnoilogepkelaaa
