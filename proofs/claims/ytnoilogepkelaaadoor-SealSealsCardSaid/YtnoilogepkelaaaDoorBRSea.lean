/-
  The laws SealSeals, SealOpens: of what is too long; SealOpens.
-/
import Derived.Test.YtnoilogepkelaaaDoorBSea
import Derived.Test.YtnoilogepkelaaaDoorBRCha
import Derived.Test.YtnoilogepkelaaaDoorBRHma
import Derived.Test.YtnoilogepkelaaaDoorBSeaP
namespace Go.Proofs.YtnoilogepkelaaaDoor
set_option linter.unusedVariables false
set_option linter.unusedSimpArgs false
open Go Go.RowKit

theorem strs_same (xs ys : List (BitVec 8)) : ∃ q : Bool, (q = true ↔ xs = ys) ∧ ((strB xs).toList == (strB ys).toList) = q ∧ ((strB xs).toList != (strB ys).toList) = !q := by
  by_cases e : xs = ys
  · subst e
    exact ⟨true, by simp, by simp, by simp⟩
  · have e2 : ¬ (strB xs).toList = (strB ys).toList := fun h => e (strB_inj (ByteArray.ext (Array.toList_inj.1 (by rw [ByteArray.toList_eq, ByteArray.toList_eq] at h; exact h))))
    exact ⟨false, by simp [e], by simpa using e2, by simpa using e2⟩

/-- The last j bytes are laid. -/
def laidN (n k j : Nat) : List (BitVec 8) := List.replicate (k - j) 0 ++ (Num.num n k).drop (k - j)
theorem laidN_length (n k j : Nat) (h : j ≤ k) : (laidN n k j).length = k := by simp [laidN, Num.num_length] <;> omega
theorem laidN_zero (n k : Nat) : laidN n k 0 = List.replicate k 0 := by
  unfold laidN
  rw [Nat.sub_zero, List.drop_of_length_le (by rw [Num.num_length]; omega), List.append_nil]
theorem laidN_all (n k : Nat) : laidN n k k = Num.num n k := by simp [laidN]
theorem laidN_set (n k j : Nat) (h : j < k) : (laidN n k j).set (k - 1 - j) (BitVec.ofNat 8 (n / 2 ^ (8 * j))) = laidN n k (j + 1) := by
  unfold laidN
  have hd := Num.num_drop n k (k - 1 - j) (by omega)
  rw [show k - 1 - (k - 1 - j) = j by omega, show k - 1 - j + 1 = k - j by omega] at hd
  rw [show k - (j + 1) = k - 1 - j by omega, hd, show k - j = (k - 1 - j) + 1 by omega, List.replicate_succ', List.append_assoc, List.set_append_right _ _ (by simp)]
  simp
theorem div_next (n j : Nat) : n / 2 ^ (8 * j) / 256 = n / 2 ^ (8 * (j + 1)) := by
  rw [Nat.div_div_eq_div_mul, show 8 * (j + 1) = 8 * j + 8 by omega, Nat.pow_add]

set_option maxRecDepth 100000 in
set_option maxHeartbeats 1000000 in
theorem rnumber_any (n k : Nat) (hn : n < 18446744073709551616) (hk0 : 1 ≤ k) (hk : k ≤ 8) (w : World) : Calls Tryd.prog 84 #[.int .u64 (n : Int), .int .i64 (k : Int)] w (RetB w (Num.num n k)) := by
  have km := made_bytes k (by omega) w
  have HO0 := Lib.hid (show OwnB 5 w.heap.size (w.alloc (.cells (bytes (List.replicate k 0)) 5)) (.slice (some ⟨w.heap.size, 0, none⟩) k k) (laidN n k 0) by
    rw [laidN_zero]
    have h := OwnB.made (E := 5) (base := w.heap.size) w (List.replicate k 0) (Nat.le_refl _) (by unfold maxLen; simp; omega)
    rwa [List.length_replicate] at h)
  obtain ⟨X, hX⟩ : ∃ X, w.alloc (.cells (bytes (List.replicate k 0)) 5) = X := ⟨_, rfl⟩
  rw [hX] at km HO0
  have HBX := Lib.hid (show Below w.heap.size w X by rw [← hX]; exact (Below.refl _ w).alloc (Nat.le_refl _) _)
  have HLA := Lib.hid (fun j h => laidN_length n k j h)
  have HSE := Lib.hid (fun j h => laidN_set n k j h)
  have HAL := Lib.hid (laidN_all n k)
  have HDN := Lib.hid (fun j => div_next n j)
  have HQ := Lib.hid (show n / 2 ^ (8 * 0) = n by simp)
  have HQL := Lib.hid (fun j => (show n / 2 ^ (8 * j) < 18446744073709551616 from Nat.lt_of_le_of_lt (Nat.div_le_self _ _) hn))
  generalize Num.num n k = N at HAL ⊢
  clear hX hn
  go_enter Tryd.func84, Tryd.ntmps84
  go_wp2
  go_loopw [0, 6] (fun s0 s6 wr => ∃ j q : Nat, j ≤ k ∧ s0 = .int .u64 (q : Int) ∧ s6 = .int .i64 ((k : Int) - 1 - j) ∧ Hid (q = n / 2 ^ (8 * j)) ∧ Hid (OwnB 5 w.heap.size wr (.slice (some ⟨w.heap.size, 0, none⟩) k k) (laidN n k j)) ∧ Hid (Below w.heap.size w wr)) (fun _ s6 _ => (intOf s6 + 1).toNat)
  case atStart => exact ⟨0, n, by omega, rfl, by simp, Lib.hid HQ.out.symm, HO0, HBX⟩
  case round =>
    obtain ⟨j, q, hj, rfl, rfl, Hq, HO, HB⟩ := hrel
    have hsz := HB.out.size
    by_cases hlt : j < k
    · obtain ⟨i, hi⟩ : ∃ i : Nat, k - 1 - j = i := ⟨_, rfl⟩
      have e : ((k : Int) - 1 - j) = (i : Int) := by omega
      rw [e]
      have hik : i < k := by omega
      have HE := Lib.hid e
      have HS := Lib.hid (HSE.out j hlt)
      rw [hi, ← Hq.out] at HS
      have HN := Lib.hid (show q / 256 = n / 2 ^ (8 * (j + 1)) by rw [Hq.out]; exact HDN.out j)
      have hql : (q : Int) < 18446744073709551616 := by have := HQL.out j; rw [← Hq.out] at this; omega
      have c0 := HO.out.get_cell i (by rw [HLA.out j hj]; exact hik)
      have f0 := HO.out.not_frozen i
      have HL := Lib.hid (HLA.out j hj)
      have HV := Lib.hid (show (q : Int) % 256 = bv (BitVec.ofNat 8 q) from (bv_ofNat q).symm)
      generalize (laidN n k j).getD i 0 = y at c0
      unfold byteV at c0
      clear e hi Hq
      have HSET := Lib.hid (HO.out.set_cell i (by rw [HL.out]; exact hik) (BitVec.ofNat 8 q))
      rw [HS.out, ← HV.out] at HSET
      have HBS := Lib.hid (HB.out.setCell (p := ⟨w.heap.size, i, none⟩) (Nat.le_refl _) (.int .u8 ((q : Int) % 256)))
      go_wp2
      have he := HE.out
      exact ⟨⟨j + 1, q / 256, by omega, by first | rfl | (congr 1; omega), by congr 1; omega, HN, HSET, HBS⟩, by simp [intOf] <;> omega⟩
    · obtain rfl : j = k := by omega
      rw [HAL.out] at HO
      rw [show ((j : Int) - 1 - j) = -1 by omega]
      go_wp2
      go_ret
      exact ⟨_, rfl, HO.out, HB.out⟩
end Go.Proofs.YtnoilogepkelaaaDoor
namespace Go.Proofs.YtnoilogepkelaaaDoor
set_option linter.unusedVariables false
set_option linter.unusedSimpArgs false
open Go Go.RowKit

theorem rstream_good (key nonce b : List (BitVec 8)) (c : BitVec 32) (v : Value) (w : World) (hs : SlB w v b) (hk : key.length = 32) (hn : nonce.length = 12) (hl : b.length ≤ 100000000) (hf : Cha.fits c b.length = true) :
    Calls Tryd.prog 96 #[.agg (bytes key), .int .u32 (wv c), .agg (bytes nonce), v] w fun e w' => ∃ v', e = .returned (.tuple #[v', .int .i64 0]) ∧ OwnB 5 w.heap.size w' v' (Cha.stream key c nonce b) ∧ Below w.heap.size w w' := by
  refine (rstream_any key nonce b c v w hs hk hn hl).mono ?_
  rintro e w' (⟨h, _⟩ | ⟨_, h⟩)
  · rw [hf] at h; cases h
  · exact h
theorem rderive1g (key name p : List (BitVec 8)) (hk : key.length = 32) (hn : name.length ≤ 1000000) (u : Value) (w : World) (g : Nat) (E : TypeId) (fr : Nat × Nat) (hg : w.heap[g]? = some (.cells #[u] E fr)) (hs : SlB w u p) (hp : p.length ≤ 1000000) :
    Calls Tryd.prog 48 #[.agg (bytes key), .string (strB name), .slice (some ⟨g, 0, none⟩) 1 1] w fun e w' => e = .returned (.agg (bytes (Hma.derive_ key name [p]))) ∧ Below w.heap.size w w' := by
  refine rderive_any key name [p] hk hn [u] _ _ (SlL.block [u] hg 1 rfl (by simp)) rfl (fun j hj => ?_) (fun j hj => ?_) (by simp)
  · obtain rfl : j = 0 := by simp at hj; omega
    exact hs
  · obtain rfl : j = 0 := by simp at hj; omega
    exact hp
/-- The nonce, filled from its beginning on. -/
def nonceN (nc : List (BitVec 8)) (i : Nat) : List (BitVec 8) := fill (fun j => nc.getD j 0) 0 12 i
theorem nonceN_all (nc : List (BitVec 8)) (h : nc.length = 12) : nonceN nc 12 = nc := by
  unfold nonceN
  rw [fill_all]
  refine Cha.ext_getD (by simp [h]) fun j hj => ?_
  simp at hj
  simp [List.getD, List.getElem?_map, List.getElem?_range hj]

set_option maxRecDepth 100000 in
set_option maxHeartbeats 4000000 in
theorem rsstream_any (key ctx : List (BitVec 8)) (hk : key.length = 32) (hcl : ctx.length ≤ 1000000) (vc : Value) (pos epoch : Nat) (hp : pos < 18446744073709551616) (he : epoch < 4294967296) (b : List (BitVec 8)) (v : Value) (w : World) (hs : SlB w v b) (hcs : SlB w vc ctx) (hl : b.length ≤ 10000000) :
    Calls Tryd.prog 85 #[.agg (bytes key), vc, .int .u64 (pos : Int), .int .u32 (epoch : Int), v] w (RetB w (Sea.stream key ctx pos epoch b)) := by
  obtain ⟨ac, capc, rfl⟩ := hcs.len
  obtain ⟨ab, capb, rfl⟩ := hs.len
  have HN4 := Lib.hid (show ∀ W, Calls Tryd.prog 84 #[.int .u64 (epoch : Int), .int .i64 4] W (RetB W (Num.num epoch 4)) from fun W => rnumber_any epoch 4 (by omega) (by omega) (by omega) W)
  have HN8 := Lib.hid (show ∀ W, Calls Tryd.prog 84 #[.int .u64 (pos : Int), .int .i64 8] W (RetB W (Num.num pos 8)) from fun W => rnumber_any pos 8 hp (by omega) (by omega) W)
  have HDR := Lib.hid (fun W g E fr u hg (h : SlB W u ctx) => rderive1g key Sea.encName ctx hk (by simp [Sea.encName]) u W g E fr hg h hcl)
  rw [← strB_enc] at HDR
  have HST := Lib.hid (fun W u (h : SlB W u b) => rstream_good (Hma.derive_ key Sea.encName [ctx]) (Sea.nonce epoch pos) b 1 u W h (Hma.derive_length _ _ _) (Sea.nonce_length _ _) (by omega) (by simp only [Cha.fits, Bool.or_eq_true, decide_eq_true_eq]; right; show 1 + _ < _; omega))
  rw [show Cha.stream (Hma.derive_ key Sea.encName [ctx]) 1 (Sea.nonce epoch pos) b = Sea.stream key ctx pos epoch b from rfl] at HST
  rw [show wv (1 : BitVec 32) = 1 from rfl] at HST
  have hnl := Sea.nonce_length epoch pos
  have HNE := Lib.hid (show Num.num epoch 4 ++ Num.num pos 8 = Sea.nonce epoch pos from rfl)
  have HIK := Lib.hid (show (Tryd.prog.info? 32).map (·.size) = some (bytes key).toList.length by rw [Array.length_toList, bytes_size, hk]; kernel_rfl)
  have HIN := Lib.hid (show (Tryd.prog.info? 118).map (·.size) = some (bytes (Sea.nonce epoch pos)).toList.length by rw [Array.length_toList, bytes_size, Sea.nonce_length]; kernel_rfl)
  obtain ⟨R, hR⟩ : ∃ R, Sea.stream key ctx pos epoch b = R := ⟨_, rfl⟩
  rw [hR] at HST ⊢
  obtain ⟨NC, hNC⟩ : ∃ NC, Sea.nonce epoch pos = NC := ⟨_, rfl⟩
  rw [hNC] at HST HIN hnl HNE
  have HNL := Lib.hid hnl
  have HNA := Lib.hid (nonceN_all NC hnl)
  have HN0 := Lib.hid (show nonceN NC 0 = List.replicate 12 0 from fill_zero _ _ _)
  have HNS := Lib.hid (fun i (h : i < 12) => (show (nonceN NC i).set i (NC.getD i 0) = nonceN NC (i + 1) from fill_set _ _ _ _ h))
  have HNG := Lib.hid (fun i (h : i < 12) => (show (nonceN NC i).length = 12 from fill_length _ _ _ _ (by omega)))
  obtain ⟨D, hD⟩ : ∃ D, bytes (Hma.derive_ key Sea.encName [ctx]) = D := ⟨_, rfl⟩
  rw [hD] at HST
  simp only [hD] at HDR
  obtain ⟨kb, hkb⟩ : ∃ kb, bytes key = kb := ⟨_, rfl⟩
  rw [hkb] at HIK HDR ⊢
  obtain ⟨n4, hn4⟩ : ∃ n4, Num.num epoch 4 = n4 := ⟨_, rfl⟩
  obtain ⟨n8, hn8⟩ : ∃ n8, Num.num pos 8 = n8 := ⟨_, rfl⟩
  have HL4 := Lib.hid (And.intro (show n4.length = 4 by rw [← hn4]; exact Num.num_length _ _) (show n8.length = 8 by rw [← hn8]; exact Num.num_length _ _))
  rw [hn4] at HN4 HNE
  rw [hn8] at HN8 HNE
  have HC := Lib.hid (fun W (h : Below w.heap.size w W) => hcs.below h (Nat.le_refl _))
  have HS := Lib.hid (fun W (h : Below w.heap.size w W) => hs.below h (Nat.le_refl _))
  have hwr : IntKind.u64.wrap (epoch : Int) = (epoch : Int) := by rw [wrap_u64_mod]; omega
  clear hk hcl hs hcs hl hR hNC hD hkb hn4 hn8 hnl
  go_enter Tryd.func85, Tryd.ntmps85
  go_upto_region 2 with fail
  obtain ⟨X, hX, hBX, hXs, hX0, hX1⟩ := alloc2 w (.cells kb 32) (.cells (bytes (List.replicate 12 0)) 118)
  rw [show (w.alloc (.cells kb 32)).alloc (.cells #[.int .u8 0, .int .u8 0, .int .u8 0, .int .u8 0, .int .u8 0, .int .u8 0, .int .u8 0, .int .u8 0, .int .u8 0, .int .u8 0, .int .u8 0, .int .u8 0] 118) = X from hX]
  have HBX := Lib.hid hBX
  have HX0 := Lib.hid hX0
  have HX1 := Lib.hid hX1
  have HXS := Lib.hid hXs
  clear hX hBX hX0 hX1 hXs
  go_upto_region 3 with (first
    | (go_at_call 84; (with_reducible refine Calls.mono (HN4.out _) ?_); rintro e w1 ⟨v1, rfl, ho, hb⟩; have HO1 := Lib.hid ho; have HB1 := Lib.hid hb; clear ho hb)
    | (go_at_call 84; (with_reducible refine Calls.mono (HN8.out _) ?_); rintro e w2 ⟨v2, rfl, ho, hb⟩; have HO2 := Lib.hid ho.sl; have HP2 := Lib.hid (HO1.out.below hb (Nat.le_refl _)); have HB2 := Lib.hid (HB1.out.trans (hb.mono HB1.out.size)); clear ho hb)
    | (at_builtin; refine wpList_append_b rfl (.tmp 18) (.tmp 20) 22 5 rfl Tryd.underlying22 info_u8 X.heap.size _ _ HP2.out rfl _ _ HO2.out rfl (by have := HL4.out; omega) HB2.out.size ?_; intro v3 w3 ho hg hn'; rw [HNE.out] at ho; have HO3 := Lib.hid ho; have HB3 := Lib.hid (HB2.out.grown hg HB2.out.size (fun k e => (World.ownsRow.lt HP2.out k e).1)); clear ho hg hn'))
  obtain ⟨b3, c3, rfl, hbase, hbl3, hcp3, hsl3⟩ := HO3.out.form 12 HNL.out (by omega)
  have hxs := HXS.out
  have HR3 := Lib.hid ((HB3.out.block (w.heap.size + 1) (by omega)).trans HX1.out)
  rw [← HN0.out] at HR3
  have HNE3 := Lib.hid (show b3 ∉ [w.heap.size + 1] by simp; omega)
  have HW3 := Lib.hid (show w.heap.size + 2 ≤ w3.heap.size by have := HB3.out.size; omega)
  have HSL3 := Lib.hid hsl3
  have HZ3 := Lib.hid ((HB3.out.block w.heap.size (by omega)).trans HX0.out)
  have HBW3 := Lib.hid (HBX.out.trans (HB3.out.mono HBX.out.size))
  clear hbase hbl3 hsl3 hxs HO1 HB1 HO2 HP2 HB2 HO3
  go_wp2
  go_loopw [13] (fun s13 wr => ∃ i : Nat, i ≤ 12 ∧ s13 = .int .i64 i ∧ Hid (wr.heap[w.heap.size + 1]? = some (.cells (bytes (nonceN NC i)) 118 (0, 0))) ∧ Hid (Kept [w.heap.size + 1] w3 wr)) (fun s13 _ => 12 - (intOf s13).toNat)
  case atStart => exact ⟨0, by omega, rfl, HR3, Lib.hid (Kept.refl _ _)⟩
  case round =>
    obtain ⟨i, hi, rfl, HR, HK⟩ := hrel
    by_cases hlt : i < 12
    · have c0 := (HSL3.out.kept HK.out HNE3.out).cell i (by rw [HNL.out]; exact hlt)
      rw [Nat.zero_add] at c0
      have c1 := (cell_of_row wr (w.heap.size + 1) i _ _ _ HR.out).trans (bytes_get? _ i (by rw [HNG.out i hlt]; exact hlt))
      have f1 := frozen_of_row wr (w.heap.size + 1) i _ _ HR.out
      have hset := heap_setCell_same wr (w.heap.size + 1) i _ _ (.int .u8 (bv (NC.getD i 0))) HR.out
      rw [bytes_set, HNS.out i hlt] at hset
      have HSET := Lib.hid hset
      have HKS := Lib.hid (HK.out.setCell (b := w.heap.size + 1) (o := i) (s := none) (by simp) (.int .u8 (bv (NC.getD i 0))))
      generalize NC.getD i 0 = y at c0 HSET HKS
      generalize (nonceN NC i).getD i 0 = z at c1
      unfold byteV at c0
      clear hset
      go_wp2
      exact ⟨⟨i + 1, by omega, by go_num, HSET, HKS⟩, by simp [intOf] <;> omega⟩
    · obtain rfl : i = 12 := by omega
      rw [HNA.out] at HR
      have hw3 := HW3.out
      have hks := HK.out.size
      have HBW := Lib.hid (HBW3.out.trans (HK.out.toBelow (B := w.heap.size) (by simp) HBW3.out.size))
      have h0 := (HK.out.block w.heap.size (by omega) (by simp)).trans HZ3.out
      have HRK := Lib.hid (fun W (hW : Below wr.heap.size wr W) => rng_bel h0 hW)
      have HRN := Lib.hid (fun W (hW : Below wr.heap.size wr W) => rng_bel HR.out hW)
      have HCW := Lib.hid (HC.out wr HBW.out)
      have HSW := Lib.hid (HS.out wr HBW.out)
      clear hw3 hks h0 HR HK HSL3 HNE3
      go_upto_region 7 with fail
      -- REG A BEGIN
      refine wp_region_held_drew (S := fun W => Below wr.heap.size wr W) (by kernel_rfl) ((Below.refl wr.heap.size wr).drew) (fun hHeld => ?_)
      refine wpAnyH_take (i := 0) rfl (by kernel_rfl) (by kernel_rfl) (by kernel_rfl) (fun _ _ _ h => h) (yieldsIf_load_mid (by rfl) 32 (.tmp 5) rfl _ _ rfl (kb.toList) _ (fun _ h => HRK.out _ h) Tryd.underlying32 rfl (HIK.out)) (by assumption) ?_
      try simp only [List.getElem_toArray, List.getElem_cons_zero, List.getElem_cons_succ, Act.put, List.setIfInBounds_toArray, List.set_cons_zero, List.set_cons_succ]
      refine wpAnyH_take (i := 1) (v := ?v1) rfl (by kernel_rfl) (by kernel_rfl) (by kernel_rfl) (fun _ _ _ h => h) (Or.inl ⟨by rfl, ?y1⟩) (by assumption) ?r1
      case y1 =>
        intro w' hSw
        go_split_ands
        go_simp
        try with_reducible rfl
      try simp only [List.getElem_toArray, List.getElem_cons_zero, List.getElem_cons_succ, Act.put, List.setIfInBounds_toArray, List.set_cons_zero, List.set_cons_succ]
      refine wpAnyH_take (i := 4) rfl (by kernel_rfl) (by kernel_rfl) (by kernel_rfl) (fun _ _ _ h => h) (yieldsIf_load_mid (by rfl) 118 (.tmp 11) rfl _ _ rfl ((bytes NC).toList) _ (fun _ h => HRN.out _ h) Tryd.underlying118 rfl (HIN.out)) (by assumption) ?_
      try simp only [List.getElem_toArray, List.getElem_cons_zero, List.getElem_cons_succ, Act.put, List.setIfInBounds_toArray, List.set_cons_zero, List.set_cons_succ]
      refine wpAnyH_take (i := 5) (v := ?v2) rfl (by kernel_rfl) (by kernel_rfl) (by kernel_rfl) (fun _ _ _ h => h) (Or.inl ⟨by rfl, ?y2⟩) (by assumption) ?r2
      case y2 =>
        intro w' hSw
        go_split_ands
        go_simp
        try with_reducible rfl
      try simp only [List.getElem_toArray, List.getElem_cons_zero, List.getElem_cons_succ, Act.put, List.setIfInBounds_toArray, List.set_cons_zero, List.set_cons_succ]
      refine wpAnyH_ready (rs := [2]) (by kernel_rfl) (by simp) ?_
      refine AllReadyH.cons (i := 2) rfl (fun K hK => ?_) AllReadyH.nil
      obtain ⟨w_1, hw_1⟩ : ∃ W, (wr.alloc (.cells #[.slice ac ctx.length capc] 22)).drew = W := ⟨_, rfl⟩
      go_simp
      try rw [hw_1]
      have hb : Below wr.heap.size wr w_1 := by rw [← hw_1]; exact (Below.alloc (Below.refl _ _) (Nat.le_refl _) _).drew
      have K_4 := Lib.hid (HCW.out.below (hb) (Nat.le_refl _))
      have K_5 := Lib.hid (HSW.out.below (hb) (Nat.le_refl _))
      have H_2 := Lib.hid (show w_1.heap[wr.heap.size]? = some (.cells #[.slice ac ctx.length capc] 22) by rw [← hw_1]; exact heap_alloc_new wr _)
      have HB_3 := Lib.hid (((Below.refl wr.heap.size wr)).trans (hb.mono ((Below.refl wr.heap.size wr)).size))
      clear hw_1 hb
      refine hK.out _ _ (HB_3.out) (fun hHeld' => ?_)
      clear hHeld hK K
      have hHeld := hHeld'
      clear hHeld'
      try simp only [List.getElem_toArray, List.getElem_cons_zero, List.getElem_cons_succ, Act.put, List.setIfInBounds_toArray, List.set_cons_zero, List.set_cons_succ]
      refine wpAnyH_ready (rs := [3]) (by kernel_rfl) (by simp) ?_
      refine AllReadyH.cons (i := 3) rfl (fun K hK => ?_) AllReadyH.nil
      go_simp
      go_at_call 48
      (with_reducible refine Calls.mono (HDR.out _ _ _ _ _ H_2.out K_4.out) ?_)
      rintro e w_6 ⟨rfl, hb⟩
      have HB_7 := Lib.hid ((HB_3.out).trans (hb.mono (HB_3.out).size))
      have K_8 := Lib.hid (K_4.out.below (hb) (Nat.le_refl _))
      have K_9 := Lib.hid (K_5.out.below (hb) (Nat.le_refl _))
      have H_10 := Lib.hid (((hb).block _ (Array.getElem?_eq_some_iff.1 H_2.out).1).trans H_2.out)
      clear hb
      refine hK.out _ _ (HB_7.out) (fun hHeld' => ?_)
      clear hHeld hK K
      have hHeld := hHeld'
      clear hHeld'
      try simp only [List.getElem_toArray, List.getElem_cons_zero, List.getElem_cons_succ, Act.put, List.setIfInBounds_toArray, List.set_cons_zero, List.set_cons_succ]
      refine wpAnyH_ready (rs := [6]) (by kernel_rfl) (by simp) ?_
      refine AllReadyH.cons (i := 6) rfl (fun K hK => ?_) AllReadyH.nil
      go_simp
      go_at_call 96
      (with_reducible refine Calls.mono (HST.out _ _ K_9.out) ?_)
      rintro e w_11 ⟨v_13, rfl, ho, hb⟩
      obtain ⟨a_14, c_15, rfl⟩ := ho.sl.len
      have HB_12 := Lib.hid ((HB_7.out).trans (hb.mono (HB_7.out).size))
      have K_16 := Lib.hid (K_8.out.below (hb) (Nat.le_refl _))
      have K_17 := Lib.hid (K_9.out.below (hb) (Nat.le_refl _))
      have H_18 := Lib.hid (((hb).block _ (Array.getElem?_eq_some_iff.1 H_10.out).1).trans H_10.out)
      have HOF := Lib.hid (ho.mono (HBW.out.trans ((HB_7.out).mono HBW.out.size)).size)
      clear hb ho
      refine hK.out _ _ (HB_12.out) (fun hHeld' => ?_)
      clear hHeld hK K
      have hHeld := hHeld'
      clear hHeld'
      try simp only [List.getElem_toArray, List.getElem_cons_zero, List.getElem_cons_succ, Act.put, List.setIfInBounds_toArray, List.set_cons_zero, List.set_cons_succ]
      refine wpAnyH_take (i := 7) (v := ?v3) rfl (by kernel_rfl) (by kernel_rfl) (by kernel_rfl) (fun _ _ _ h => h) (Or.inl ⟨by rfl, ?y3⟩) (by assumption) ?r3
      case y3 =>
        intro w' hSw
        go_split_ands
        go_simp
        try with_reducible rfl
      try simp only [List.getElem_toArray, List.getElem_cons_zero, List.getElem_cons_succ, Act.put, List.setIfInBounds_toArray, List.set_cons_zero, List.set_cons_succ]
      refine wpAnyH_take (i := 8) (v := ?v4) rfl (by kernel_rfl) (by kernel_rfl) (by kernel_rfl) (fun _ _ _ h => h) (Or.inl ⟨by rfl, ?y4⟩) (by assumption) ?r4
      case y4 =>
        intro w' hSw
        go_split_ands
        go_simp
        try with_reducible rfl
      try simp only [List.getElem_toArray, List.getElem_cons_zero, List.getElem_cons_succ, Act.put, List.setIfInBounds_toArray, List.set_cons_zero, List.set_cons_succ]
      refine wpAnyH_take (i := 9) (v := ?v5) rfl (by kernel_rfl) (by kernel_rfl) (by kernel_rfl) (fun _ _ _ h => h) (Or.inl ⟨by rfl, ?y5⟩) (by assumption) ?r5
      case y5 =>
        intro w' hSw
        go_split_ands
        go_simp
        try with_reducible rfl
      try simp only [List.getElem_toArray, List.getElem_cons_zero, List.getElem_cons_succ, Act.put, List.setIfInBounds_toArray, List.set_cons_zero, List.set_cons_succ]
      refine wpAnyH_take (i := 10) (v := ?v6) rfl (by kernel_rfl) (by kernel_rfl) (by kernel_rfl) (fun _ _ _ h => h) (Or.inl ⟨by rfl, ?y6⟩) (by assumption) ?r6
      case y6 =>
        intro w' hSw
        go_split_ands
        go_simp
        try with_reducible rfl
      try simp only [List.getElem_toArray, List.getElem_cons_zero, List.getElem_cons_succ, Act.put, List.setIfInBounds_toArray, List.set_cons_zero, List.set_cons_succ]
      refine wpAnyH_take (i := 11) (v := ?v7) rfl (by kernel_rfl) (by kernel_rfl) (by kernel_rfl) (fun _ _ _ h => h) (Or.inl ⟨by rfl, ?y7⟩) (by assumption) ?r7
      case y7 =>
        intro w' hSw
        go_split_ands
        go_simp
        try with_reducible rfl
      try simp only [List.getElem_toArray, List.getElem_cons_zero, List.getElem_cons_succ, Act.put, List.setIfInBounds_toArray, List.set_cons_zero, List.set_cons_succ]
      refine wpAnyH_done (by kernel_rfl) ?_ _
      go_wp2
      go_ret
      exact ⟨_, rfl, HOF.out.below (Below.refl _ _) (Nat.le_refl _), HBW.out.trans ((HB_12.out).mono HBW.out.size)⟩
      -- REG A END
end Go.Proofs.YtnoilogepkelaaaDoor
namespace Go.Proofs.YtnoilogepkelaaaDoor
set_option linter.unusedVariables false
set_option linter.unusedSimpArgs false
open Go Go.RowKit

theorem rderive1 (key name p : List (BitVec 8)) (hk : key.length = 32) (hn : name.length ≤ 1000000) (u : Value) (w : World) (E : TypeId) (hs : SlB w u p) (hp : p.length ≤ 1000000) :
    Calls Tryd.prog 48 #[.agg (bytes key), .string (strB name), .slice (some ⟨w.heap.size, 0, none⟩) 1 1] (w.alloc (.cells #[u] E)) fun e w' => e = .returned (.agg (bytes (Hma.derive_ key name [p]))) ∧ Below w.heap.size w w' := by
  refine (rderive1g key name p hk hn u _ _ _ _ (heap_alloc_new w _) (hs.alloc _) hp).mono ?_
  rintro e w' ⟨rfl, hb⟩
  exact ⟨rfl, ((Below.refl _ w).alloc (Nat.le_refl _) _).trans (hb.mono (by simp))⟩

set_option maxRecDepth 100000 in
set_option maxHeartbeats 4000000 in
theorem rstag_any (key ctx : List (BitVec 8)) (hk : key.length = 32) (hcl : ctx.length ≤ 1000000) (vc : Value) (pos epoch : Nat) (hp : pos < 18446744073709551616) (he : epoch < 4294967296) (b : List (BitVec 8)) (v : Value) (w : World) (hs : SlB w v b) (hcs : SlB w vc ctx) (hl : b.length ≤ 10000000) :
    Calls Tryd.prog 86 #[.agg (bytes key), vc, .int .u64 (pos : Int), .int .u32 (epoch : Int), v] w fun e w' => e = .returned (.agg (bytes (Sea.tag_ key ctx pos epoch b))) ∧ Below w.heap.size w w' := by
  obtain ⟨ac, capc, rfl⟩ := hcs.len
  obtain ⟨ab, capb, rfl⟩ := hs.len
  have HNE := Lib.hid (show ∀ W, Calls Tryd.prog 84 #[.int .u64 (epoch : Int), .int .i64 4] W (RetB W (Num.num epoch 4)) from fun W => rnumber_any epoch 4 (by omega) (by omega) (by omega) W)
  have HNC := Lib.hid (show ∀ W, Calls Tryd.prog 84 #[.int .u64 (ctx.length : Int), .int .i64 4] W (RetB W (Num.num ctx.length 4)) from fun W => rnumber_any ctx.length 4 (by omega) (by omega) (by omega) W)
  have HNP := Lib.hid (show ∀ W, Calls Tryd.prog 84 #[.int .u64 (pos : Int), .int .i64 8] W (RetB W (Num.num pos 8)) from fun W => rnumber_any pos 8 hp (by omega) (by omega) W)
  have HDR := Lib.hid (fun W u (h : SlB W u ctx) => rderive1 key Sea.tagName ctx hk (by simp [Sea.tagName]) u W 22 h hcl)
  rw [← strB_tag] at HDR
  have hown : (Hma.derive_ key Sea.tagName [ctx]).length = 32 := Hma.derive_length _ _ _
  have htx : (Sea.tagText ctx pos epoch b).length ≤ 20000000 := by simp [Sea.tagText, Num.num_length]; omega
  have HMA := Lib.hid (fun v0 v1 W (h0 : SlB W v0 (Hma.derive_ key Sea.tagName [ctx])) (h1 : SlB W v1 (Sea.tagText ctx pos epoch b)) => rhmac_any (Hma.derive_ key Sea.tagName [ctx]) (Sea.tagText ctx pos epoch b) v0 v1 W h0 h1 (by omega) (by omega))
  rw [show Hma.tag (Hma.derive_ key Sea.tagName [ctx]) (Sea.tagText ctx pos epoch b) = Sea.tag_ key ctx pos epoch b from rfl] at HMA
  have HTT := Lib.hid (show Num.num ctx.length 4 ++ ctx ++ Num.num pos 8 ++ Num.num epoch 4 ++ b = Sea.tagText ctx pos epoch b from rfl)
  have HIT := Lib.hid (show (Tryd.prog.info? 32).map (·.size) = some (bytes (Sea.tag_ key ctx pos epoch b)).size by rw [bytes_size, Sea.tag_length]; kernel_rfl)
  have HTL := Lib.hid (Sea.tag_length key ctx pos epoch b)
  have HIK := Lib.hid (show (Tryd.prog.info? 32).map (·.size) = some (bytes key).size by rw [bytes_size, hk]; kernel_rfl)
  have HIO := Lib.hid (show (Tryd.prog.info? 32).map (·.size) = some (bytes (Hma.derive_ key Sea.tagName [ctx])).size by rw [bytes_size, hown]; kernel_rfl)
  obtain ⟨T, hT⟩ : ∃ T, Sea.tag_ key ctx pos epoch b = T := ⟨_, rfl⟩
  rw [hT] at HMA HIT HTL ⊢
  obtain ⟨D, hD⟩ : ∃ D, Hma.derive_ key Sea.tagName [ctx] = D := ⟨_, rfl⟩
  rw [hD] at HMA HIO hown
  simp only [hD] at HDR
  have HOL := Lib.hid hown
  have HTK := Lib.hid (fun i (h : i < 32) => Rhm.take_next D i (by omega))
  have HT32 := Lib.hid (show D.take 32 = D from List.take_of_length_le (by omega))
  have HCE := Lib.hid (fun i (h : i < 32) => bytes_get? D i (by omega))
  have HLN := Lib.hid (fun i => (show (D.take i).length ≤ 32 by rw [List.length_take]; omega))
  obtain ⟨kb, hkb⟩ : ∃ kb, bytes key = kb := ⟨_, rfl⟩
  rw [hkb] at HIK HDR ⊢
  obtain ⟨TT, hTT⟩ : ∃ TT, Sea.tagText ctx pos epoch b = TT := ⟨_, rfl⟩
  rw [hTT] at HMA HTT
  obtain ⟨n4, hn4⟩ : ∃ n4, Num.num epoch 4 = n4 := ⟨_, rfl⟩
  obtain ⟨n8, hn8⟩ : ∃ n8, Num.num pos 8 = n8 := ⟨_, rfl⟩
  obtain ⟨nc, hnc⟩ : ∃ nc, Num.num ctx.length 4 = nc := ⟨_, rfl⟩
  have HLE := Lib.hid (show n4.length = 4 ∧ n8.length = 8 ∧ nc.length = 4 ∧ ctx.length ≤ 1000000 ∧ b.length ≤ 10000000 by rw [← hn4, ← hn8, ← hnc]; exact ⟨Num.num_length _ _, Num.num_length _ _, Num.num_length _ _, hcl, hl⟩)
  rw [hn4] at HNE HTT
  rw [hn8] at HNP HTT
  rw [hnc] at HNC HTT
  have HC := Lib.hid (fun W (h : Below w.heap.size w W) => hcs.below h (Nat.le_refl _))
  have HS := Lib.hid (fun W (h : Below w.heap.size w W) => hs.below h (Nat.le_refl _))
  have hwr : IntKind.u64.wrap (epoch : Int) = (epoch : Int) := by rw [wrap_u64_mod]; omega
  have hwc : IntKind.u64.wrap (ctx.length : Int) = (ctx.length : Int) := by rw [wrap_u64_mod]; omega
  clear hk hs hcs hl hT hD hkb hTT hn4 hn8 hnc hown htx hcl
  go_enter Tryd.func86, Tryd.ntmps86
  go_upto_region 1 with fail
  obtain ⟨X, hX, hBX, hXs, hX0, hX1⟩ := alloc2 w (.cells kb 32) (.cells (bytes (List.replicate 32 0)) 32)
  rw [show (w.alloc (.cells kb 32)).alloc (.cells #[.int .u8 0, .int .u8 0, .int .u8 0, .int .u8 0, .int .u8 0, .int .u8 0, .int .u8 0, .int .u8 0, .int .u8 0, .int .u8 0, .int .u8 0, .int .u8 0, .int .u8 0, .int .u8 0, .int .u8 0, .int .u8 0, .int .u8 0, .int .u8 0, .int .u8 0, .int .u8 0, .int .u8 0, .int .u8 0, .int .u8 0, .int .u8 0, .int .u8 0, .int .u8 0, .int .u8 0, .int .u8 0, .int .u8 0, .int .u8 0, .int .u8 0, .int .u8 0] 32) = X from hX]
  have HBX := Lib.hid hBX
  have HX0 := Lib.hid hX0
  have HX1 := Lib.hid hX1
  have HXS := Lib.hid hXs
  clear hX hBX hX0 hX1 hXs
  go_upto_region 2 with (first
    | (refine wpList_load_row rfl 32 (.tmp 5) rfl w.heap.size rfl _ _ _ _ HX0.out Tryd.underlying32 rfl HIK.out ?_)
    | (go_at_call 48; (with_reducible refine Calls.mono (HDR.out X _ (HC.out _ HBX.out)) ?_); rintro e w2 ⟨rfl, hb⟩; have HB2 := Lib.hid hb; clear hb)
    | (refine wpList_store_row rfl 32 (.tmp 11) (.tmp 18) rfl _ _ rfl rfl _ _ (heap_alloc_new _ _) HIO.out (by rw [bytes_size, HOL.out]; rfl) (bytes_one _) ?_; rw [World.setRow_alloc_new]))
  obtain ⟨Y, hY, hBY, hYs, hY0⟩ := alloc1 w2 (.cells (bytes D) 32)
  rw [hY]
  have hz2 := HB2.out.size
  have hxy := HB2.out.trans (hBY.mono hz2)
  have hxs := HXS.out
  have HBY := Lib.hid (HBX.out.trans (hxy.mono HBX.out.size))
  have HY0 := Lib.hid hY0
  have HYS := Lib.hid (show w2.heap.size < Y.heap.size ∧ w.heap.size + 1 < Y.heap.size by omega)
  have HOR := Lib.hid (show ∀ W, Below Y.heap.size Y W → W.heap[w.heap.size + 1]? = some (.cells (bytes (List.replicate 32 0)) 32 (0, 0)) from fun W h => ((hxy.trans (h.mono hxy.size)).block _ (by omega)).trans HX1.out)
  obtain ⟨G, hG⟩ : ∃ G, w2.heap.size = G := ⟨_, rfl⟩
  rw [hG] at HY0 HYS ⊢
  clear hY hBY hYs hY0 hz2 hxy hxs HX0 HX1 HXS HBX HB2 HDR hG
  go_wp2
  go_loopw [12, 13] (fun s12 s13 wr => ∃ i : Nat, i ≤ 32 ∧ s13 = .int .i64 i ∧ Hid (OwnB 5 Y.heap.size wr s12 (D.take i)) ∧ Hid (Below Y.heap.size Y wr)) (fun _ s13 _ => 32 - (intOf s13).toNat)
  case atStart => exact ⟨0, by omega, rfl, OwnB.nil _ _ _, Below.refl _ _⟩
  case round =>
    obtain ⟨i, hi, rfl, HO, HB⟩ := hrel
    have hsz := HB.out.size
    by_cases hlt : i < 32
    · have c0 := (cell_of_row wr G i _ _ _ ((HB.out.block _ HYS.out.1).trans HY0.out)).trans (HCE.out i hlt)
      have htk := HTK.out i hlt
      generalize D.getD i 0 = y at c0 htk
      have HT := Lib.hid htk
      have HL := Lib.hid (HLN.out i)
      clear htk
      go_wp2_with (at_builtin; refine wpList_append_b rfl (.tmp 23) (.tmp 27) 22 5 rfl Tryd.underlying22 info_u8 Y.heap.size _ _ (HO.out.alloc _) rfl _ [y] (one_byte _ _ _ rfl) rfl (by have := HL.out; simp only [List.length_singleton]; omega) (by simp; omega) ?_; intro v3 w3 ho hg hn'; rw [← HT.out] at ho; have HO3 := Lib.hid ho; have HB3 := Lib.hid ((HB.out.alloc hsz _).grown hg (by simp; omega) (fun k e => (World.ownsRow.lt HO.out k e).1)); clear ho hg hn')
      exact ⟨⟨i + 1, by omega, by go_num, HO3, HB3⟩, by simp [intOf]; omega⟩
    · obtain rfl : i = 32 := by omega
      rw [HT32.out] at HO
      have HCY := Lib.hid (fun W (hW : Below Y.heap.size Y W) => HC.out W (HBY.out.trans (hW.mono HBY.out.size)))
      have HSY := Lib.hid (fun W (hW : Below Y.heap.size Y W) => HS.out W (HBY.out.trans (hW.mono HBY.out.size)))
      go_wp2_with (first
        | (go_at_call 84; (with_reducible refine Calls.mono (HNC.out _) ?_); rintro e w1 ⟨v1, rfl, ho, hb⟩; have HO1 := Lib.hid ho; have HR1 := Lib.hid hb; clear ho hb)
        | (at_builtin; refine wpList_append_b rfl (.tmp 33) (.tmp 34) 22 5 rfl Tryd.underlying22 info_u8 wr.heap.size _ _ HO1.out rfl _ _ (HCY.out _ (HB.out.trans (HR1.out.mono hsz))) rfl (by have := HLE.out; omega) HR1.out.size ?_; intro v2 w2 ho hg hn'; have HO2 := Lib.hid ho; have HR2 := Lib.hid (HR1.out.grown hg HR1.out.size (fun k e => (World.ownsRow.lt HO1.out k e).1)); clear ho hg hn')
        | (go_at_call 84; (with_reducible refine Calls.mono (HNP.out _) ?_); rintro e w3 ⟨v3, rfl, ho, hb⟩; have HX3 := Lib.hid ho.sl; have HO3 := Lib.hid (HO2.out.below hb (Nat.le_refl _)); have HR3 := Lib.hid (HR2.out.trans (hb.mono HR2.out.size)); clear ho hb)
        | (at_builtin; refine wpList_append_b rfl (.tmp 36) (.tmp 38) 22 5 rfl Tryd.underlying22 info_u8 wr.heap.size _ _ HO3.out rfl _ _ HX3.out rfl (by have := HLE.out; simp only [List.length_append]; omega) HR3.out.size ?_; intro v4 w4 ho hg hn'; have HO4 := Lib.hid ho; have HR4 := Lib.hid (HR3.out.grown hg HR3.out.size (fun k e => (World.ownsRow.lt HO3.out k e).1)); clear ho hg hn')
        | (go_at_call 84; (with_reducible refine Calls.mono (HNE.out _) ?_); rintro e w5 ⟨v5, rfl, ho, hb⟩; have HX5 := Lib.hid ho.sl; have HO5 := Lib.hid (HO4.out.below hb (Nat.le_refl _)); have HR5 := Lib.hid (HR4.out.trans (hb.mono HR4.out.size)); clear ho hb)
        | (at_builtin; refine wpList_append_b rfl (.tmp 40) (.tmp 43) 22 5 rfl Tryd.underlying22 info_u8 wr.heap.size _ _ HO5.out rfl _ _ HX5.out rfl (by have := HLE.out; simp only [List.length_append]; omega) HR5.out.size ?_; intro v6 w6 ho hg hn'; have HO6 := Lib.hid ho; have HR6 := Lib.hid (HR5.out.grown hg HR5.out.size (fun k e => (World.ownsRow.lt HO5.out k e).1)); clear ho hg hn')
        | (at_builtin; refine wpList_append_b rfl (.tmp 46) (.tmp 47) 22 5 rfl Tryd.underlying22 info_u8 wr.heap.size _ _ HO6.out rfl _ _ (HSY.out _ (HB.out.trans (HR6.out.mono hsz))) rfl (by have := HLE.out; simp only [List.length_append]; omega) HR6.out.size ?_; intro v7 w7 ho hg hn'; rw [HTT.out] at ho; have HO7 := Lib.hid ho; have HR7 := Lib.hid (HR6.out.grown hg HR6.out.size (fun k e => (World.ownsRow.lt HO6.out k e).1)); clear ho hg hn')
        | (go_at_call 47; (with_reducible refine Calls.mono (HMA.out _ _ _ (HO.out.below HR7.out (Nat.le_refl _)).sl HO7.out.sl) ?_); rintro e w8 ⟨rfl, hb⟩; have HR8 := Lib.hid (HB.out.trans ((HR7.out.trans (hb.mono HR7.out.size)).mono hsz)); have HO8 := Lib.hid (HOR.out _ HR8.out); clear hb)
        | (refine wpList_store_row rfl 32 (.tmp 10) (.tmp 49) rfl (w.heap.size + 1) _ rfl rfl _ _ HO8.out HIT.out (by rw [bytes_size, bytes_size, HTL.out]; rfl) (bytes_one _) ?_))
      have hb2 := HBY.out.trans (HR8.out.mono HBY.out.size)
      exact bodyPost_ret (results_cell_row Tryd.results86 _ _ (w.heap.size + 1) _ _ _ _ rfl (setRow_heap _ _ _ _ _ _ HO8.out) Tryd.underlying32 rfl HIT.out) rfl ⟨rfl, hb2.trans (((Kept.refl [w.heap.size + 1] _).setRow (by simp) _).toBelow (B := w.heap.size) (by simp) hb2.size)⟩
end Go.Proofs.YtnoilogepkelaaaDoor
namespace Go.Proofs.YtnoilogepkelaaaDoor
set_option linter.unusedVariables false
set_option linter.unusedSimpArgs false
open Go Go.RowKit

def vlen : Value → Nat
  | .slice _ n _ => n
  | _ => 0
set_option maxRecDepth 100000 in
theorem rseal_long (kb : Array Value) (text : List (BitVec 8)) (vc v : Value) (pos epoch : Int) (w : World) (hs : SlB w v text) (hl : 131068 < text.length) :
    Calls Tryd.prog 58 #[.agg kb, vc, .int .u64 pos, .int .u32 epoch, v] w fun e w' => e = .returned (.tuple #[.slice none 0 0, .int .i64 3]) ∧ Below w.heap.size w w' := by
  obtain ⟨a, cap, rfl⟩ := hs.len
  have hb := hs.bounds.2
  unfold maxLen at hb
  have HBK := Lib.hid (fun W => rbucket_nat text.length (by omega) W)
  rw [Sea.bucket_none _ hl] at HBK
  generalize text.length = n at *
  clear hs hl hb
  go_enter Tryd.func58, Tryd.ntmps58
  go_wp2_with (go_at_call 50; (with_reducible refine Calls.mono (HBK.out _) ?_); rintro e w' ⟨rfl, rfl⟩)
  refine bodyPost_ret (v := .tuple #[.slice none 0 0, .int .i64 3]) (by simp [results, Tryd.results58, go_sem]) rfl ⟨rfl, ?_⟩
  exact (Below.refl w.heap.size w).alloc (Nat.le_refl _) _

set_option maxRecDepth 100000 in
set_option maxHeartbeats 4000000 in
theorem rseal_ok (key ctx : List (BitVec 8)) (hk : key.length = 32) (hcl : ctx.length ≤ 1000000) (vc : Value) (pos epoch : Nat) (hp : pos < 18446744073709551616) (he : epoch < 4294967296) (text : List (BitVec 8)) (v : Value) (w : World) (hs : SlB w v text) (hcs : SlB w vc ctx) (hl : text.length ≤ 131068) :
    Calls Tryd.prog 58 #[.agg (bytes key), vc, .int .u64 (pos : Int), .int .u32 (epoch : Int), v] w (RetB2 w (Sea.seal_ key ctx pos epoch text)) := by
  obtain ⟨ac, capc, rfl⟩ := hcs.len
  obtain ⟨at_, capt, rfl⟩ := hs.len
  have hsp := Sea.bucket_spec text.length hl
  have hble := Sea.bucket_le text.length
  have hpl := Sea.padded_length text hl
  have HBK := Lib.hid (fun W => rbucket_nat text.length (by omega) W)
  have HNE := Lib.hid (show ∀ W, Calls Tryd.prog 84 #[.int .u64 (epoch : Int), .int .i64 4] W (RetB W (Num.num epoch 4)) from fun W => rnumber_any epoch 4 (by omega) (by omega) (by omega) W)
  have HNT := Lib.hid (show ∀ W, Calls Tryd.prog 84 #[.int .u64 (text.length : Int), .int .i64 4] W (RetB W (Num.num text.length 4)) from fun W => rnumber_any text.length 4 (by omega) (by omega) (by omega) W)
  have HPA := Lib.hid (show Num.num text.length 4 ++ text ++ List.replicate (Sea.bucket text.length - 4 - text.length) 0 = Sea.padded text from rfl)
  have HST := Lib.hid (fun W u (h : SlB W u (Sea.padded text)) (hB : Below w.heap.size w W) => rsstream_any key ctx hk hcl _ pos epoch hp he (Sea.padded text) u W h (hcs.below hB (Nat.le_refl _)) (by omega))
  rw [show Sea.stream key ctx pos epoch (Sea.padded text) = Sea.body key ctx pos epoch text from rfl] at HST
  have hbl := Sea.body_length key ctx pos epoch text hl
  have HTG := Lib.hid (fun W u (h : SlB W u (Sea.body key ctx pos epoch text)) (hB : Below w.heap.size w W) => rstag_any key ctx hk hcl _ pos epoch hp he (Sea.body key ctx pos epoch text) u W h (hcs.below hB (Nat.le_refl _)) (by omega))
  have HSL := Lib.hid (show Num.num epoch 4 ++ Sea.body key ctx pos epoch text ++ Sea.tag_ key ctx pos epoch (Sea.body key ctx pos epoch text) = Sea.seal_ key ctx pos epoch text from rfl)
  have htl := Sea.tag_length key ctx pos epoch (Sea.body key ctx pos epoch text)
  have HIK := Lib.hid (show (Tryd.prog.info? 32).map (·.size) = some (bytes key).size by rw [bytes_size, hk]; kernel_rfl)
  have HIT := Lib.hid (show (Tryd.prog.info? 32).map (·.size) = some (bytes (Sea.tag_ key ctx pos epoch (Sea.body key ctx pos epoch text))).size by rw [bytes_size, htl]; kernel_rfl)
  obtain ⟨T, hT⟩ : ∃ T, Sea.tag_ key ctx pos epoch (Sea.body key ctx pos epoch text) = T := ⟨_, rfl⟩
  rw [hT] at HTG HSL HIT htl
  obtain ⟨BD, hBD⟩ : ∃ BD, Sea.body key ctx pos epoch text = BD := ⟨_, rfl⟩
  rw [hBD] at HST HTG HSL hbl
  obtain ⟨SL, hSL⟩ : ∃ SL, Sea.seal_ key ctx pos epoch text = SL := ⟨_, rfl⟩
  rw [hSL] at HSL ⊢
  obtain ⟨PD, hPD⟩ : ∃ PD, Sea.padded text = PD := ⟨_, rfl⟩
  rw [hPD] at HST HPA hpl
  obtain ⟨kb, hkb⟩ : ∃ kb, bytes key = kb := ⟨_, rfl⟩
  rw [hkb] at HIK HST HTG ⊢
  obtain ⟨n4, hn4⟩ : ∃ n4, Num.num epoch 4 = n4 := ⟨_, rfl⟩
  obtain ⟨nt, hnt⟩ : ∃ nt, Num.num text.length 4 = nt := ⟨_, rfl⟩
  have hl4 : n4.length = 4 := by rw [← hn4]; exact Num.num_length _ _
  have hlt : nt.length = 4 := by rw [← hnt]; exact Num.num_length _ _
  rw [hn4] at HNE HSL
  rw [hnt] at HNT HPA
  have HTL := Lib.hid htl
  have HTK := Lib.hid (fun i (h : i < 32) => Rhm.take_next T i (by omega))
  have HT32 := Lib.hid (show T.take 32 = T from List.take_of_length_le (by omega))
  have HCE := Lib.hid (fun i (h : i < 32) => bytes_get? T i (by omega))
  have HLN := Lib.hid (fun i => (show (n4 ++ BD ++ T.take i).length ≤ 140000 by simp only [List.length_append, List.length_take]; omega))
  have HLB := Lib.hid (show n4.length + BD.length ≤ 140000 by omega)
  have HS := Lib.hid (fun W (h : Below w.heap.size w W) => hs.below h (Nat.le_refl _))
  obtain ⟨B, hB⟩ : ∃ B, Sea.bucket text.length = B := ⟨_, rfl⟩
  rw [hB] at HBK HPA hsp hble
  obtain ⟨n, hn⟩ : ∃ n, text.length = n := ⟨_, rfl⟩
  rw [hn] at HBK HNT HPA HS hsp hl ⊢
  have HL0 := Lib.hid (show (nt ++ text).length = 4 + n by simp [hlt, hn])
  have HNX := Lib.hid (show nt.length + text.length ≤ 140000 by omega)
  have HB0 := Lib.hid (show 4 + n ≤ B ∧ B ≤ 131072 by omega)
  have HPD := Lib.hid (show PD = nt ++ text ++ List.replicate (B - (4 + n)) 0 by rw [← HPA.out, show B - 4 - n = B - (4 + n) by omega])
  have hB1 : 0 < (B : Int) := by omega
  have hB2 : (B : Int) ≤ 131072 := by omega
  have hwr : IntKind.u64.wrap (epoch : Int) = (epoch : Int) := by rw [wrap_u64_mod]; omega
  have hwn : IntKind.u64.wrap (n : Int) = (n : Int) := by rw [wrap_u64_mod]; omega
  clear hk hs hcs hl hT hBD hSL hPD hkb hn4 hnt hB hn hsp hble hpl hbl htl hl4 hlt HPA
  go_enter Tryd.func58, Tryd.ntmps58
  go_upto_region 1 with fail
  obtain ⟨X, hX, hBX, hXs, hX0⟩ := alloc1 w (.cells kb 32)
  rw [hX]
  have HBX := Lib.hid hBX
  have HX0 := Lib.hid hX0
  have HXS := Lib.hid hXs
  clear hX hBX hX0 hXs
  go_upto_block 0 with (first
    | (go_at_call 50; (with_reducible refine Calls.mono (HBK.out _) ?_); rintro e w' ⟨rfl, rfl⟩)
    | (go_at_call 84; (with_reducible refine Calls.mono (HNT.out _) ?_); rintro e w1 ⟨v1, rfl, ho, hb⟩; have HO1 := Lib.hid ho; have HB1 := Lib.hid hb; clear ho hb)
    | (at_builtin; refine wpList_append_b rfl (.tmp 26) (.tmp 27) 22 5 rfl Tryd.underlying22 info_u8 X.heap.size _ _ HO1.out rfl _ _ (HS.out _ (HBX.out.trans (HB1.out.mono HBX.out.size))) rfl (by have := HNX.out; omega) HB1.out.size ?_; intro v2 w2 ho hg hn'; have HO2 := Lib.hid ho; have HB2 := Lib.hid (HB1.out.grown hg HB1.out.size (fun k e => (World.ownsRow.lt HO1.out k e).1)); clear ho hg hn'))
  obtain ⟨a2, c2, rfl⟩ := HO2.out.sl.len
  rw [HL0.out] at HO2 ⊢
  go_cut [13] (fun s13 wx => ∃ a c, s13 = .slice a PD.length c ∧ Hid (OwnB 5 X.heap.size wx (.slice a PD.length c) PD) ∧ Hid (Below X.heap.size X wx))
  case first =>
    go_wp2_with fail
    go_loopw [13] (fun s13 wr => ∃ (L : Nat) (a : Option Addr) (c : Nat), s13 = .slice a L c ∧ 4 + n ≤ L ∧ L ≤ B ∧ Hid (OwnB 5 X.heap.size wr (.slice a L c) (nt ++ text ++ List.replicate (L - (4 + n)) 0)) ∧ Hid (Below X.heap.size X wr)) (fun s13 _ => B - vlen s13)
    case atStart => exact ⟨4 + n, a2, c2, rfl, Nat.le_refl _, HB0.out.1, Lib.hid (by simpa using HO2.out), HB2⟩
    case round =>
      obtain ⟨L, a, c, rfl, hL, hj, HO, HB⟩ := hrel
      have hsz := HB.out.size
      have HLJ := Lib.hid (show (nt ++ text ++ List.replicate (L - (4 + n)) 0).length = L by rw [List.length_append, HL0.out, List.length_replicate]; omega)
      have HNJ := Lib.hid (show nt ++ text ++ List.replicate (L - (4 + n)) 0 ++ [0] = nt ++ text ++ List.replicate (L + 1 - (4 + n)) 0 by rw [List.append_assoc _ _ [0], ← List.replicate_succ', show L + 1 - (4 + n) = L - (4 + n) + 1 by omega])
      have HEJ := Lib.hid (fun (h : L = B) => (show nt ++ text ++ List.replicate (L - (4 + n)) 0 = PD by rw [HPD.out, h]))
      have HLL := Lib.hid hL
      by_cases hlt : L < B
      · generalize nt ++ text ++ List.replicate (L - (4 + n)) 0 = xs at HO HLJ HNJ
        clear HEJ
        have hlt' : (L : Int) < (B : Int) := by omega
        have HLX := Lib.hid (show (xs ++ [(0 : BitVec 8)]).length = L + 1 by rw [List.length_append, HLJ.out]; rfl)
        clear hL
        go_wp2_with (at_builtin; refine wpList_append_b rfl (.tmp 33) (.tmp 34) 22 5 rfl Tryd.underlying22 info_u8 X.heap.size _ _ (HO.out.alloc _) rfl _ [0] (one_byte wr 0 0 rfl) rfl (by have := HLJ.out; simp only [List.length_singleton]; omega) (by simp; omega) ?_; intro v3 w3 ho hg hn'; obtain ⟨a3, c3, rfl⟩ := ho.sl.len; rw [HLX.out, HNJ.out] at ho; rw [HLX.out]; have HO3 := Lib.hid ho; have HB3 := Lib.hid ((HB.out.alloc hsz _).grown hg (by simp; omega) (fun k e => (World.ownsRow.lt HO.out k e).1)); clear ho hg hn')
        have hll := HLL.out
        exact ⟨⟨L + 1, a3, c3, rfl, by omega, by omega, HO3, HB3⟩, by simp [vlen] <;> omega⟩
      · have hBL : L = B := by omega
        have h2 := HEJ.out hBL
        rw [h2] at HO
        have HLP := Lib.hid (show L = PD.length by have h3 := HLJ.out; rw [h2] at h3; exact h3.symm)
        have hge : (B : Int) ≤ (L : Int) := by omega
        clear h2 HLJ HNJ HEJ hBL hlt hL
        go_wp2
        go_meet
        case rel =>
          rw [HLP.out] at HO ⊢
          exact ⟨_, _, rfl, HO, HB⟩
  case rest =>
    obtain ⟨a9, c9, rfl, HO9, HB9⟩ := hcut
    have hxs := HXS.out
    have HW9 := Lib.hid (HBX.out.trans (HB9.out.mono HBX.out.size))
    have HR9 := Lib.hid (fun W (hW : Below X.heap.size X W) => (hW.block w.heap.size (by omega)).trans HX0.out)
    clear HO2 HB2 HX0 HXS hxs HNT HPD HL0 HNX HB0
    go_upto_region 9 with (first
      | (refine wpList_load_row rfl 32 (.tmp 5) rfl w.heap.size rfl _ _ _ _ (HR9.out _ HB9.out) Tryd.underlying32 rfl HIK.out ?_)
      | (go_at_call 85; (with_reducible refine Calls.mono (HST.out _ _ HO9.out.sl HW9.out) ?_); rintro e w3 ⟨v3, rfl, ho, hb⟩; have HO3 := Lib.hid ho.sl; have HB3 := Lib.hid (HB9.out.trans (hb.mono HB9.out.size)); have HW3 := Lib.hid (HW9.out.trans (hb.mono HW9.out.size)); clear ho hb)
      | (refine wpList_load_row rfl 32 (.tmp 5) rfl w.heap.size rfl _ _ _ _ (HR9.out _ HB3.out) Tryd.underlying32 rfl HIK.out ?_)
      | (go_at_call 86; (with_reducible refine Calls.mono (HTG.out _ _ HO3.out HW3.out) ?_); rintro e w4 ⟨rfl, hb⟩; have HO4 := Lib.hid (HO3.out.below hb (Nat.le_refl _)); have HB4 := Lib.hid (HW3.out.trans (hb.mono HW3.out.size)); clear hb)
      | (refine wpList_store_row rfl 32 (.tmp 15) (.tmp 47) rfl _ _ rfl rfl _ _ (heap_alloc_new _ _) HIT.out (by rw [bytes_size, HTL.out]; rfl) (bytes_one _) ?_; rw [World.setRow_alloc_new]))
    obtain ⟨Y, hY, hBY, hYs, hY0⟩ := alloc1 w4 (.cells (bytes T) 32)
    rw [hY]
    have hz4 := HB4.out.size
    have HBY := Lib.hid (HB4.out.trans (hBY.mono hz4))
    have HO5 := Lib.hid (HO4.out.below hBY (Nat.le_refl _))
    have HY0 := Lib.hid hY0
    have HYS := Lib.hid (show w4.heap.size < Y.heap.size by omega)
    obtain ⟨G, hG⟩ : ∃ G, w4.heap.size = G := ⟨_, rfl⟩
    rw [hG] at HY0 HYS ⊢
    clear hY hBY hYs hY0 hz4 hG HO3 HO4 HB3 HW3 HB4 HO9 HB9 HW9 HR9 HST HTG
    go_upto_block 2 with (first
      | (go_at_call 84; (with_reducible refine Calls.mono (HNE.out _) ?_); rintro e w6 ⟨v6, rfl, ho, hb⟩; have HO6 := Lib.hid ho; have HP6 := Lib.hid (HO5.out.below hb (Nat.le_refl _)); have HB6 := Lib.hid hb; clear ho hb)
      | (at_builtin; refine wpList_append_b rfl (.tmp 50) (.tmp 51) 22 5 rfl Tryd.underlying22 info_u8 Y.heap.size _ _ HO6.out rfl _ _ HP6.out rfl (by have := HLB.out; omega) HB6.out.size ?_; intro v7 w7 ho hg hn'; have HO7 := Lib.hid ho; have HB7 := Lib.hid (HB6.out.grown hg HB6.out.size (fun k e => (World.ownsRow.lt HO6.out k e).1)); clear ho hg hn'))
    go_wp2_with fail
    go_loopw [16, 17] (fun s16 s17 wr => ∃ i : Nat, i ≤ 32 ∧ s17 = .int .i64 i ∧ Hid (OwnB 5 Y.heap.size wr s16 (n4 ++ BD ++ T.take i)) ∧ Hid (Below Y.heap.size Y wr)) (fun _ s17 _ => 32 - (intOf s17).toNat)
    case atStart => exact ⟨0, by omega, rfl, Lib.hid (by simpa using HO7.out), HB7⟩
    case round =>
      obtain ⟨i, hi, rfl, HO, HB⟩ := hrel
      have hsz := HB.out.size
      by_cases hlt : i < 32
      · have c0 := (cell_of_row wr G i _ _ _ ((HB.out.block _ HYS.out).trans HY0.out)).trans (HCE.out i hlt)
        have htk : n4 ++ BD ++ T.take i ++ [T.getD i 0] = n4 ++ BD ++ T.take (i + 1) := by rw [HTK.out i hlt]; simp only [List.append_assoc]
        generalize T.getD i 0 = y at c0 htk
        have HT := Lib.hid htk
        have HL := Lib.hid (HLN.out i)
        clear htk
        go_wp2_with (at_builtin; refine wpList_append_b rfl (.tmp 57) (.tmp 61) 22 5 rfl Tryd.underlying22 info_u8 Y.heap.size _ _ (HO.out.alloc _) rfl _ [y] (one_byte _ _ _ rfl) rfl (by have := HL.out; simp only [List.length_singleton]; omega) (by simp; omega) ?_; intro v8 w8 ho hg hn'; rw [HT.out] at ho; have HO8 := Lib.hid ho; have HB8 := Lib.hid ((HB.out.alloc hsz _).grown hg (by simp; omega) (fun k e => (World.ownsRow.lt HO.out k e).1)); clear ho hg hn')
        exact ⟨⟨i + 1, by omega, by go_num, HO8, HB8⟩, by simp [intOf]; omega⟩
      · obtain rfl : i = 32 := by omega
        rw [HT32.out, HSL.out] at HO
        obtain ⟨a8, c8, rfl⟩ := HO.out.sl.len
        go_wp2
        refine bodyPost_ret (v := .tuple #[.slice a8 SL.length c8, .int .i64 0]) (by simp [results, Tryd.results58, go_sem]) rfl ⟨_, rfl, HO.out.mono HBY.out.size, HBY.out.trans (HB.out.mono HBY.out.size)⟩
end Go.Proofs.YtnoilogepkelaaaDoor
namespace Go.Proofs.YtnoilogepkelaaaDoor
set_option linter.unusedVariables false
set_option linter.unusedSimpArgs false
open Go Go.RowKit

/-- The number that the first i bytes are. -/
def horner (s : List (BitVec 8)) : Nat → Nat
  | 0 => 0
  | i + 1 => 256 * horner s i + (s.getD i 0).toNat
theorem horner_4 (s : List (BitVec 8)) : horner s 4 = Num.val4 s := by
  simp only [horner, Num.val4]
  omega
theorem horner_lt (s : List (BitVec 8)) (i : Nat) (h : i ≤ 4) : horner s i < 4294967296 ∧ (i ≤ 3 → horner s i < 16777216) := by
  have h0 := (s.getD 0 0).isLt
  have h1 := (s.getD 1 0).isLt
  have h2 := (s.getD 2 0).isLt
  have h3 := (s.getD 3 0).isLt
  match i, h with
  | 0, _ => simp [horner]
  | 1, _ => simp only [horner]; omega
  | 2, _ => simp only [horner]; omega
  | 3, _ => simp only [horner]; omega
  | 4, _ => simp only [horner]; omega
/-- Do so many bytes fit? -/
def Fits (n : Nat) : Prop := 100 ≤ n ∧ Sea.bucket (n - 40) = n - 36
theorem fits_iff (n : Nat) : Fits n ↔ ∃ j, j < 12 ∧ (n : Int) - 36 = ((64 * 2 ^ j : Nat) : Int) := by
  constructor
  · rintro ⟨h1, h2⟩
    have := (Sea.bucket_fits (n - 36) (by omega)).1 (by rw [show n - 36 - 4 = n - 40 by omega]; exact h2)
    obtain ⟨k, hk, e⟩ := this
    exact ⟨k, by omega, by omega⟩
  · rintro ⟨j, hj, e⟩
    have hp : 64 ≤ 64 * 2 ^ j := Nat.le_mul_of_pos_right 64 (Nat.two_pow_pos j)
    have h1 : n - 36 = 64 * 2 ^ j := by omega
    refine ⟨by omega, ?_⟩
    have := (Sea.bucket_fits (n - 36) (by omega)).2 ⟨j, by omega, h1⟩
    rwa [show n - 36 - 4 = n - 40 by omega] at this
theorem pow_next (k : Nat) : 64 * 2 ^ (k + 1) = 2 * (64 * 2 ^ k) := by rw [Nat.pow_succ]; omega
theorem pow_bound (k : Nat) (h : k ≤ 12) : 64 * 2 ^ k ≤ 262144 ∧ (k ≤ 11 ↔ 64 * 2 ^ k ≤ 131072) := by
  have : ∀ k, k < 13 → 64 * 2 ^ k ≤ 262144 ∧ (k ≤ 11 ↔ 64 * 2 ^ k ≤ 131072) := by decide
  exact this k (by omega)

set_option maxRecDepth 100000 in
set_option maxHeartbeats 8000000 in
theorem ropen_any (key ctx : List (BitVec 8)) (hk : key.length = 32) (hcl : ctx.length ≤ 1000000) (vc : Value) (pos : Nat) (hp : pos < 18446744073709551616) (s : List (BitVec 8)) (v : Value) (w : World) (hs : SlB w v s) (hcs : SlB w vc ctx) (hlen : s.length ≤ 1000000) :
    Calls Tryd.prog 59 #[.agg (bytes key), vc, .int .u64 (pos : Int), v] w (OpenR w (Sea.open_ key ctx pos s)) := by
  obtain ⟨ac, capc, rfl⟩ := hcs.len
  obtain ⟨as_, caps, rfl⟩ := hs.len
  have HFI := Lib.hid (fits_iff s.length)
  have HNO := Lib.hid (show ¬ Fits s.length → Sea.open_ key ctx pos s = none from fun h => by
    unfold Sea.open_
    rw [if_pos]
    by_cases h1 : s.length < 100
    · exact .inl h1
    · exact .inr (fun e => h ⟨by omega, e⟩))
  obtain ⟨Q, hQ⟩ : ∃ Q : Bool, Q = true ↔ Fits s.length := by
    by_cases h : Fits s.length
    · exact ⟨true, by simp [h]⟩
    · exact ⟨false, by simp [h]⟩
  have HQ := Lib.hid hQ
  have HS := Lib.hid hs
  have HC := Lib.hid hcs
  obtain ⟨kb, hkb⟩ : ∃ kb, bytes key = kb := ⟨_, rfl⟩
  rw [hkb]
  have HKB := Lib.hid hkb
  obtain ⟨n, hn⟩ : ∃ n, s.length = n := ⟨_, rfl⟩
  rw [hn] at HFI HNO HQ HS hlen ⊢
  have HN := Lib.hid hn
  clear hQ hs hcs hkb hn
  go_enter Tryd.func59, Tryd.ntmps59
  go_upto_region 1 with fail
  obtain ⟨X, hX, hBX, hXs, hX0⟩ := alloc1 w (.cells kb 32)
  rw [hX]
  have HBX := Lib.hid hBX
  have HX0 := Lib.hid hX0
  clear hX hBX hX0 hXs
  go_upto_block 0 with fail
  go_cut [12] (fun s12 wx => s12 = .bool Q ∧ wx = X)
  case first =>
    go_wp2_with fail
    go_loop [12, 13] (fun s12 s13 => ∃ (k b : Nat) (q : Bool), k ≤ 12 ∧ s12 = .bool q ∧ s13 = .int .i64 (b : Int) ∧ b ≤ 262144 ∧ (k ≤ 11 ↔ b ≤ 131072) ∧ Hid (b = 64 * 2 ^ k) ∧ Hid (q = true ↔ ∃ j, j < k ∧ (n : Int) - 36 = ((64 * 2 ^ j : Nat) : Int))) (fun _ s13 => (262144 - intOf s13).toNat)
    case atStart => exact ⟨0, 64, false, by omega, rfl, rfl, by omega, by omega, rfl, Lib.hid ⟨(fun h => by cases h), (fun ⟨j, h, _⟩ => absurd h (by omega))⟩⟩
    case round =>
      obtain ⟨k, b, q, hk, rfl, rfl, hb1, hb2, Hb, Hq⟩ := hrel
      by_cases hlt : b ≤ 131072
      · have HK11 := Lib.hid (hb2.2 hlt)
        have hk11 := hb2.2 hlt
        have hb0 : 64 ≤ b := by rw [Hb.out]; exact Nat.le_mul_of_pos_right 64 (Nat.two_pow_pos k)
        have HBN := Lib.hid (show 2 * b = 64 * 2 ^ (k + 1) by rw [Hb.out, pow_next])
        have HPB := Lib.hid (pow_bound (k + 1) (by omega))
        have HQN := Lib.hid (show ∀ q' : Bool, (q' = true ↔ q = true ∨ (n : Int) - 36 = (b : Int)) → (q' = true ↔ ∃ j, j < k + 1 ∧ (n : Int) - 36 = ((64 * 2 ^ j : Nat) : Int)) from fun q' h => by
          rw [h, Hq.out]
          constructor
          · rintro (⟨j, h1, h2⟩ | h)
            · exact ⟨j, by omega, h2⟩
            · exact ⟨k, by omega, by rw [h, Hb.out]⟩
          · rintro ⟨j, h1, h2⟩
            by_cases e : j = k
            · right; rw [h2, e, ← Hb.out]
            · left; exact ⟨j, by omega, h2⟩)
        clear Hb Hq hb2 hk11
        have hlt' : (b : Int) ≤ 131072 := by omega
        have hb0' : (64 : Int) ≤ (b : Int) := by omega
        cases q with
        | true =>
          go_wp2
          go_round
          case rel =>
            have hk11 := HK11.out
            have h1 := HBN.out
            have h2 := HPB.out
            rw [← h1] at h2
            exact ⟨k + 1, 2 * b, true, by omega, rfl, by first | go_num | (congr 1; omega), by omega, by omega, HBN, Lib.hid (HQN.out true (by simp))⟩
          case measure => simp [intOf]; omega
        | false =>
          by_cases he : (n : Int) - 36 = (b : Int)
          · have HE := Lib.hid he
            have he' : ((n : Int) - 36 == (b : Int)) = true := by simpa using he
            clear he
            go_wp2
            go_round
            case rel =>
              have hk11 := HK11.out
              have h1 := HBN.out
              have h2 := HPB.out
              rw [← h1] at h2
              exact ⟨k + 1, 2 * b, true, by omega, by first | rfl | (congr 1; simp [HE.out]), by first | go_num | (congr 1; omega), by omega, by omega, HBN, Lib.hid (HQN.out true (by simp [HE.out]))⟩
            case measure => simp [intOf]; omega
          · have HE := Lib.hid he
            have he' : ((n : Int) - 36 == (b : Int)) = false := by simpa using he
            clear he
            go_wp2
            go_round
            case rel =>
              have hk11 := HK11.out
              have h1 := HBN.out
              have h2 := HPB.out
              rw [← h1] at h2
              exact ⟨k + 1, 2 * b, false, by omega, by first | rfl | (congr 1; simp [HE.out]), by first | go_num | (congr 1; omega), by omega, by omega, HBN, Lib.hid (HQN.out false (by simp [HE.out]))⟩
            case measure => simp [intOf]; omega
      · have hk12 : k = 12 := by omega
        have HQQ := Lib.hid (show q = Q by
          have h1 := HQ.out
          rw [HFI.out] at h1
          have h2 := Hq.out
          rw [hk12, ← h1] at h2
          cases q <;> cases Q <;> simp_all)
        have hge : (131072 : Int) < (b : Int) := by omega
        clear Hq Hb hb2 hk12 hlt
        go_wp2
        go_meet
        case rel => exact ⟨by rw [HQQ.out], rfl⟩
  case rest =>
    obtain ⟨rfl, rfl⟩ := hcut
    cases Q with
    | false =>
      have HON := Lib.hid (HNO.out (fun h => by have := HQ.out.2 h; cases this))
      go_wp2
      refine bodyPost_ret (v := .tuple #[.slice none 0 0, .int .u32 0, .int .i64 9]) (by simp [results, Tryd.results59, go_sem]) rfl (Or.inr ⟨HON.out, rfl, HBX.out⟩)
    | true =>
      have hf := HQ.out.1 rfl
      have hble := Sea.bucket_le (n - 40)
      obtain ⟨M, rfl⟩ : ∃ M, n = M + 40 := ⟨n - 40, by have := hf.1; omega⟩
      have hM : 60 ≤ M ∧ M ≤ 131068 := by
        have h1 := hf.1
        have h2 := hf.2
        omega
      obtain ⟨b, off, cap, e, hcap, hb⟩ := HS.out.open_ (M + 40) HN.out (by omega)
      simp only [Value.slice.injEq] at e
      obtain ⟨rfl, -, rfl⟩ := e
      have HRF := Lib.hid (show Sea.open_ key ctx pos s = _ from Sea.open_ref key ctx pos s (by rw [HN.out]; omega) (by rw [HN.out]; exact hf.2))
      rw [HN.out, show M + 40 - 36 = M + 4 by omega, show M + 40 - 40 = M by omega] at HRF
      rw [show (((M + 40 : Nat) : Int)) - 36 = (M : Int) + 4 by omega]
      have HM := Lib.hid hM
      have hM1 : (60 : Int) ≤ (M : Int) := by omega
      have hM2 : (M : Int) ≤ 131068 := by omega
      have HE4 := Lib.hid (horner_4 s)
      have HLT := Lib.hid (fun i h => horner_lt s i h)
      have HH0 := Lib.hid (show horner s 0 = 0 from rfl)
      have HHS := Lib.hid (fun i => (show horner s (i + 1) = 256 * horner s i + (s.getD i 0).toNat from rfl))
      have HCE := Lib.hid (fun i (hi : i < 4) => (show wc.cell? ⟨b, off + i, none⟩ = some (byteV (s.getD i 0)) from (HS.out.below HBX.out (Nat.le_refl _)).cell i (by rw [HN.out]; omega)))
      have hcl1 : (M : Int) + 40 ≤ (caps : Int) := by omega
      have hc1 : ¬ caps - 4 = 0 := by omega
      have HBD := Lib.hid (show SlB wc (.slice (some ⟨b, off + 4, none⟩) (M + 4) (caps - 4)) ((s.drop 4).take (M + 4)) from ((HS.out.below HBX.out (Nat.le_refl _)).drop 4 (by omega)).take (M + 4) (by omega))
      clear hf hble hM HFI HNO HQ
      go_upto_block 2 with fail
      go_cut [14] (fun s14 wx => s14 = .int .u32 ((Num.val4 s : Nat) : Int) ∧ wx = wc)
      case first =>
        go_wp2_with fail
        go_loop [14, 15] (fun s14 s15 => ∃ i c : Nat, i ≤ 4 ∧ s14 = .int .u32 (c : Int) ∧ s15 = .int .i64 i ∧ Hid (c = horner s i)) (fun _ s15 => 4 - (intOf s15).toNat)
        case atStart => exact ⟨0, 0, by omega, rfl, rfl, Lib.hid HH0.out.symm⟩
        case round =>
          obtain ⟨i, c, hi, rfl, rfl, Hc⟩ := hrel
          by_cases hlt : i < 4
          · have c0 := HCE.out i hlt
            have hcl : (c : Int) < 16777216 := by have h := (HLT.out i (by omega)).2 (by omega); rw [← Hc.out] at h; omega
            have hdl : (((s.getD i 0).toNat : Nat) : Int) < 256 := by have := (s.getD i 0).isLt; omega
            have HN2 := Lib.hid (show 256 * c + (s.getD i 0).toNat = horner s (i + 1) by rw [HHS.out, ← Hc.out])
            unfold byteV bv at c0
            generalize (s.getD i 0).toNat = d at c0 hdl HN2
            have hw1 : IntKind.u32.wrap (256 * (c : Int)) = 256 * (c : Int) := by rw [wrap_u32_mod]; omega
            have hw2 : IntKind.u32.wrap (256 * (c : Int) + (d : Int)) = 256 * (c : Int) + (d : Int) := by rw [wrap_u32_mod]; omega
            clear Hc hcl
            go_wp2
            go_round
            case rel => exact ⟨i + 1, 256 * c + d, by omega, by first | go_num | (congr 1; omega), by go_num, HN2⟩
            case measure => simp [intOf]; omega
          · obtain rfl : i = 4 := by omega
            have HV := Lib.hid (show c = Num.val4 s by rw [Hc.out, HE4.out])
            clear Hc
            go_wp2
            go_meet
            case rel => exact ⟨by rw [HV.out], rfl⟩
      case rest =>
        obtain ⟨rfl, rfl⟩ := hcut
        have hep := Num.val4_lt s
        obtain ⟨ep, hepe⟩ : ∃ ep, Num.val4 s = ep := ⟨_, rfl⟩
        rw [hepe] at hep HRF ⊢
        obtain ⟨BD, hBD⟩ : ∃ BD, (s.drop 4).take (M + 4) = BD := ⟨_, rfl⟩
        rw [hBD] at HRF HBD
        have hbl : BD.length = M + 4 := by rw [← hBD]; have := HN.out; simp; omega
        have hpl : (Sea.stream key ctx pos ep BD).length = M + 4 := (Sea.stream_length _ _ _ _ _).trans hbl
        have HST := Lib.hid (fun W u (h : SlB W u BD) (hB : Below w.heap.size w W) => rsstream_any key ctx hk hcl _ pos ep hp hep BD u W h (HC.out.below hB (Nat.le_refl _)) (by have := HM.out; omega))
        have HSE := Lib.hid (fun text u W (ht : text.length ≤ 131068) (h : SlB W u text) (hB : Below w.heap.size w W) => rseal_ok key ctx hk hcl _ pos ep hp hep text u W h (HC.out.below hB (Nat.le_refl _)) ht)
        rw [HKB.out] at HST HSE
        have HIK := Lib.hid (show (Tryd.prog.info? 32).map (·.size) = some kb.size by rw [← HKB.out, bytes_size, hk]; kernel_rfl)
        have HEP := Lib.hid hep
        have HHP := Lib.hid (show horner (Sea.stream key ctx pos ep BD) 4 = Num.val4 (Sea.stream key ctx pos ep BD) from horner_4 _)
        have hpv := Num.val4_lt (Sea.stream key ctx pos ep BD)
        obtain ⟨PD, hPD⟩ : ∃ PD, Sea.stream key ctx pos ep BD = PD := ⟨_, rfl⟩
        rw [hPD] at HRF HST HHP hpl hpv
        have HPL := Lib.hid hpl
        have HLP := Lib.hid (fun i h => horner_lt PD i h)
        have HH0' := Lib.hid (show horner PD 0 = 0 from rfl)
        have HHP' := Lib.hid (fun i => (show horner PD (i + 1) = 256 * horner PD i + (PD.getD i 0).toNat from rfl))
        have HSX := Lib.hid (fun W (hB : Below w.heap.size w W) => HS.out.below hB (Nat.le_refl _))
        clear hep hepe hBD hbl hpl hPD hpv HE4 HLT HH0 HHS HCE hk
        go_upto_region 15 with fail
        rw [show 4 + (M + 4) - 4 = M + 4 by omega]
        go_upto_block 4 with (first
          | (refine wpList_load_row rfl 32 (.tmp 4) rfl w.heap.size rfl _ _ _ _ HX0.out Tryd.underlying32 rfl HIK.out ?_)
          | (go_at_call 85; (with_reducible refine Calls.mono (HST.out _ _ HBD.out HBX.out) ?_); rintro e w3 ⟨v3, rfl, ho, hb⟩; have HO3 := Lib.hid ho; have HR3 := Lib.hid ((hb.block w.heap.size (Array.getElem?_eq_some_iff.1 HX0.out).1).trans HX0.out); have HW3 := Lib.hid (HBX.out.trans (hb.mono HBX.out.size)); clear ho hb))
        obtain ⟨b3, c3, rfl, _, hb3, hcp3, hsl3⟩ := HO3.out.form (M + 4) HPL.out (by omega)
        have HSL3 := Lib.hid hsl3
        have HCE := Lib.hid (fun i (hi : i < 4) => (show w3.cell? ⟨b3, i, none⟩ = some (byteV (PD.getD i 0)) by have := HSL3.out.cell i (by rw [HPL.out]; have := HM.out; omega); rwa [Nat.zero_add] at this))
        have hm60 := HM.out
        have hc3 : ¬ c3 - 4 = 0 := by omega
        have hc31 : (M : Int) + 4 ≤ (c3 : Int) := by omega
        clear hsl3 hm60
        go_cut [18] (fun s18 wx => s18 = .int .i64 ((Num.val4 PD : Nat) : Int) ∧ wx = w3)
        case first =>
          go_wp2_with fail
          go_loop [18, 19] (fun s18 s19 => ∃ i c : Nat, i ≤ 4 ∧ s18 = .int .i64 (c : Int) ∧ s19 = .int .i64 i ∧ Hid (c = horner PD i)) (fun _ s19 => 4 - (intOf s19).toNat)
          case atStart => exact ⟨0, 0, by omega, rfl, rfl, Lib.hid HH0'.out.symm⟩
          case round =>
            obtain ⟨i, c, hi, rfl, rfl, Hc⟩ := hrel
            by_cases hlt : i < 4
            · have c0 := HCE.out i hlt
              have hcl2 : c < 16777216 := by have h := (HLP.out i (by omega)).2 (by omega); rw [← Hc.out] at h; exact h
              have hdl : (((PD.getD i 0).toNat : Nat) : Int) < 256 := by have := (PD.getD i 0).isLt; omega
              have HN2 := Lib.hid (show 256 * c + (PD.getD i 0).toNat = horner PD (i + 1) by rw [HHP'.out, ← Hc.out])
              unfold byteV bv at c0
              generalize (PD.getD i 0).toNat = d at c0 hdl HN2
              have hw1 : IntKind.i64.wrap (256 * (c : Int)) = 256 * (c : Int) := by rw [IntKind.wrap_i64]; omega
              have hw2 : IntKind.i64.wrap (256 * (c : Int) + (d : Int)) = 256 * (c : Int) + (d : Int) := by rw [IntKind.wrap_i64]; omega
              clear Hc hcl2
              go_wp2
              go_round
              case rel => exact ⟨i + 1, 256 * c + d, by omega, by first | go_num | (congr 1; omega), by go_num, HN2⟩
              case measure => simp [intOf]; omega
            · obtain rfl : i = 4 := by omega
              have HV := Lib.hid (show c = Num.val4 PD by rw [Hc.out, HHP.out])
              clear Hc
              go_wp2
              go_meet
              case rel => exact ⟨by rw [HV.out], rfl⟩
        case rest =>
          obtain ⟨rfl, rfl⟩ := hcut
          obtain ⟨Lg, hLg⟩ : ∃ Lg, Num.val4 PD = Lg := ⟨_, rfl⟩
          rw [hLg] at HRF ⊢
          clear hLg HLP HH0' HHP' HHP HCE
          by_cases hL : Lg ≤ M
          · have hL1 : (Lg : Int) ≤ (M : Int) := by omega
            have hLg0 : (4 : Int) ≤ 4 + (Lg : Int) := by omega
            have hLg1 : 4 + (Lg : Int) ≤ (M : Int) + 4 := by omega
            have hLg2 : 4 + (Lg : Int) ≤ (c3 : Int) := by omega
            have htl : ((PD.drop 4).take Lg).length = Lg := by have := HPL.out; simp; omega
            have HTS := Lib.hid (show SlB wc (.slice (some ⟨b3, 4, none⟩) (4 + Lg - 4) (c3 - 4)) ((PD.drop 4).take Lg) by
              have h := (HSL3.out.drop 4 (by omega)).take Lg (by omega)
              rwa [Nat.zero_add, show Lg = 4 + Lg - 4 by omega, show (PD.drop 4).take (4 + Lg - 4) = (PD.drop 4).take Lg by rw [show 4 + Lg - 4 = Lg by omega]] at h)
            obtain ⟨q2, hq, hqe, hqn⟩ := strs_same (Sea.seal_ key ctx pos ep ((PD.drop 4).take Lg)) s
            have HRR := Lib.hid (show Sea.open_ key ctx pos s = if q2 = true then some ((PD.drop 4).take Lg, ep) else none by
              rw [HRF.out]
              by_cases hqq : q2 = true
              · rw [if_pos hqq, if_pos ⟨hL, hq.1 hqq⟩]
              · rw [if_neg hqq, if_neg (fun h => hqq (hq.2 h.2))])
            obtain ⟨TXT, hTXT⟩ : ∃ TXT, (PD.drop 4).take Lg = TXT := ⟨_, rfl⟩
            rw [hTXT] at HTS HRR htl hqn hqe
            have HTL := Lib.hid htl
            have HLM := Lib.hid (show Lg ≤ 131068 by have := HM.out; omega)
            obtain ⟨SL, hSL⟩ : ∃ SL, Sea.seal_ key ctx pos ep TXT = SL := ⟨_, rfl⟩
            have HSQ := Lib.hid (fun u W h hB => (show Calls _ _ _ W (RetB2 W SL) from hSL ▸ HSE.out TXT u W (by rw [HTL.out]; exact HLM.out) h hB))
            rw [hSL] at hqn hqe
            obtain ⟨AS, hAS⟩ : ∃ AS, strB SL = AS := ⟨_, rfl⟩
            obtain ⟨BS, hBS⟩ : ∃ BS, strB s = BS := ⟨_, rfl⟩
            rw [hAS, hBS] at hqn hqe
            have HAS := Lib.hid hAS
            have HBS := Lib.hid hBS
            have HQN := Lib.hid (And.intro hqe hqn)
            clear hq hqn hqe htl hTXT hSL hAS hBS HRF HSE hL
            go_upto_region 25 with (first
              | (at_builtin; refine wpList_append_b rfl (.tmp 76) (.tmp 80) 22 5 rfl Tryd.underlying22 info_u8 wc.heap.size _ [] (OwnB.made wc [] (Nat.le_refl _) (by simp)) rfl _ _ (HTS.out.alloc _) rfl (by have := HTL.out; have := HLM.out; simp; omega) (by simp) ?_; intro v5 w5 ho hg hn'; rw [List.nil_append] at ho; obtain ⟨a5, c5, rfl⟩ := ho.sl.len; rw [HTL.out] at ho ⊢; have HO5 := Lib.hid ho; have HB5 := Lib.hid (((Below.refl wc.heap.size wc).alloc (Nat.le_refl _) _).grown hg (by simp) (fun k e => (World.ownsRow.lt (OwnB.made (E := 5) (base := wc.heap.size) wc [] (Nat.le_refl _) (by simp)) k e).1)); clear ho hg hn')
              | (refine wpList_load_row rfl 32 (.tmp 4) rfl w.heap.size rfl _ _ _ _ ((HB5.out.block w.heap.size (Array.getElem?_eq_some_iff.1 HR3.out).1).trans HR3.out) Tryd.underlying32 rfl HIK.out ?_)
              | (go_at_call 58; (with_reducible refine Calls.mono (HSQ.out _ _ HO5.out.sl (HW3.out.trans (HB5.out.mono HW3.out.size))) ?_); rintro e w6 ⟨v6, rfl, ho, hb⟩; obtain ⟨a6, c6, rfl⟩ := ho.sl.len; have HO6 := Lib.hid ho.sl; have HT6 := Lib.hid ((HO5.out.below hb (Nat.le_refl _)).mono HW3.out.size); have HB6 := Lib.hid (HW3.out.trans ((HB5.out.trans (hb.mono HB5.out.size)).mono HW3.out.size)); clear ho hb))
            have k1 := conv_any HO6.out
            have k2 := conv_any (HSX.out _ HB6.out)
            rw [HAS.out] at k1
            rw [HBS.out] at k2
            cases q2 with
            | true =>
              have hd1 := HQN.out.1
              have hd2 : (AS.toList != BS.toList) = false := HQN.out.2
              have HON := Lib.hid (show Sea.open_ key ctx pos s = some (TXT, ep) from HRR.out)
              go_wp2
              refine bodyPost_ret (v := .tuple #[.slice a5 Lg c5, .int .u32 (ep : Int), .int .i64 0]) (by simp [results, Tryd.results59, go_sem]) rfl (Or.inl ⟨_, _, _, HON.out, rfl, HT6.out, HB6.out⟩)
            | false =>
              have hd1 := HQN.out.1
              have hd2 : (AS.toList != BS.toList) = true := HQN.out.2
              have HON := Lib.hid (show Sea.open_ key ctx pos s = none from HRR.out)
              go_wp2
              refine bodyPost_ret (v := .tuple #[.slice none 0 0, .int .u32 0, .int .i64 9]) (by simp [results, Tryd.results59, go_sem]) rfl (Or.inr ⟨HON.out, rfl, HB6.out⟩)
          · have HON := Lib.hid (show Sea.open_ key ctx pos s = none by rw [HRF.out, if_neg (fun h => hL h.1)])
            have hL1 : (M : Int) < (Lg : Int) := by omega
            clear hL HRF
            go_wp2
            refine bodyPost_ret (v := .tuple #[.slice none 0 0, .int .u32 0, .int .i64 9]) (by simp [results, Tryd.results59, go_sem]) rfl (Or.inr ⟨HON.out, rfl, HW3.out⟩)
end Go.Proofs.YtnoilogepkelaaaDoor
namespace Go.Proofs.YtnoilogepkelaaaDoor
set_option linter.unusedVariables false
set_option linter.unusedSimpArgs false
open Go Go.RowKit

theorem ropen_yes {key ctx s t : List (BitVec 8)} {pos ep : Nat} (h : Sea.open_ key ctx pos s = some (t, ep)) (hk : key.length = 32) (hcl : ctx.length ≤ 1000000) (vc : Value) (hp : pos < 18446744073709551616) (v : Value) (w : World) (hs : SlB w v s) (hcs : SlB w vc ctx) (hlen : s.length ≤ 1000000) :
    Calls Tryd.prog 59 #[.agg (bytes key), vc, .int .u64 (pos : Int), v] w fun e w' => ∃ v', e = .returned (.tuple #[v', .int .u32 (ep : Int), .int .i64 0]) ∧ OwnB 5 w.heap.size w' v' t ∧ Below w.heap.size w w' := by
  refine (ropen_any key ctx hk hcl vc pos hp s v w hs hcs hlen).mono ?_
  rintro e w' (⟨t', ep', v', h1, h2, h3, h4⟩ | ⟨h1, _⟩)
  · rw [h] at h1
    obtain ⟨rfl, rfl⟩ : t = t' ∧ ep = ep' := by simpa using h1
    exact ⟨v', h2, h3, h4⟩
  · rw [h] at h1; cases h1
theorem ropen_no {key ctx s : List (BitVec 8)} {pos : Nat} (h : Sea.open_ key ctx pos s = none) (hk : key.length = 32) (hcl : ctx.length ≤ 1000000) (vc : Value) (hp : pos < 18446744073709551616) (v : Value) (w : World) (hs : SlB w v s) (hcs : SlB w vc ctx) (hlen : s.length ≤ 1000000) :
    Calls Tryd.prog 59 #[.agg (bytes key), vc, .int .u64 (pos : Int), v] w fun e w' => e = .returned (.tuple #[.slice none 0 0, .int .u32 0, .int .i64 9]) ∧ Below w.heap.size w w' := by
  refine (ropen_any key ctx hk hcl vc pos hp s v w hs hcs hlen).mono ?_
  rintro e w' (⟨t', ep', v', h1, h2, h3, h4⟩ | ⟨_, h2, h3⟩)
  · rw [h] at h1; cases h1
  · exact ⟨h2, h3⟩
/-- Both answers to bytes that are opened: the same texts, numbers, errors. -/
theorem opens_same (key ctx s : List (BitVec 8)) (pos ep0 : Nat) (hk : key.length = 32) (hcl : ctx.length ≤ 1000000) (vc : Value) (hp : pos < 18446744073709551616) (hlen : s.length ≤ 1000000) :
    ∃ (t : List (BitVec 8)) (x er : Int),
      (∀ v w, SlB w v s → SlB w vc ctx → Glob w → Calls Tryd.prog 55 #[.agg (bytes key), .agg #[vc, .int .u64 (pos : Int), .int .u32 (ep0 : Int)], v] w fun e w' => ∃ v', e = .returned (.tuple #[v', .int .u32 x, .int .i64 er]) ∧ SlB w' v' t ∧ Below w.heap.size w w') ∧
      (∀ v w, SlB w v s → SlB w vc ctx → Calls Tryd.prog 59 #[.agg (bytes key), vc, .int .u64 (pos : Int), v] w fun e w' => ∃ v', e = .returned (.tuple #[v', .int .u32 x, .int .i64 er]) ∧ SlB w' v' t ∧ Below w.heap.size w w') := by
  cases ho : Sea.open_ key ctx pos s with
  | none =>
    exact ⟨[], 0, 9, fun v w hs hc hG => (open_no ho hk hcl vc ep0 hp v w hs hc hlen hG).mono (by rintro e w' ⟨rfl, hb⟩; exact ⟨_, rfl, SlB.nil _, hb⟩), fun v w hs hc => (ropen_no ho hk hcl vc hp v w hs hc hlen).mono (by rintro e w' ⟨rfl, hb⟩; exact ⟨_, rfl, SlB.nil _, hb⟩)⟩
  | some r =>
    obtain ⟨t, ep⟩ := r
    exact ⟨t, ep, 0, fun v w hs hc hG => (open_yes ho hk hcl vc ep0 hp v w hs hc hlen hG).mono (by rintro e w' ⟨v', rfl, h, hb⟩; exact ⟨_, rfl, h.sl, hb⟩), fun v w hs hc => (ropen_yes ho hk hcl vc hp v w hs hc hlen).mono (by rintro e w' ⟨v', rfl, h, hb⟩; exact ⟨_, rfl, h.sl, hb⟩)⟩

set_option maxRecDepth 100000 in
set_option maxHeartbeats 4000000 in
theorem law_sealOpens {w : World} (key : List (BitVec 8)) (hk : key.length = 32) (vc : Value) (ctx : List (BitVec 8)) (hcs : SlB w vc ctx) (pos ep : Nat) (hp : pos < 18446744073709551616) (he : ep < 4294967296) (v2 : Value) (s : List (BitVec 8)) (hs : SlB w v2 s) (hG : Glob w) :
    Calls Tryd.prog 22 #[.agg (bytes key), .agg #[vc, .int .u64 (pos : Int), .int .u32 (ep : Int)], v2] w fun e w' => e = .returned (.bool true) ∧ Below w.heap.size w w' := by
  have hgz := hG.size
  obtain ⟨ac, capc, rfl⟩ := hcs.len
  obtain ⟨as_, caps, rfl⟩ := hs.len
  have HAW := Lib.hid (fun W (hB : Below w.heap.size w W) => sawake_any W (hG.below hB hgz))
  have HIK := Lib.hid (show (Tryd.prog.info? 32).map (·.size) = some (bytes key).size by rw [bytes_size, hk]; kernel_rfl)
  have HIP := Lib.hid (fun (x : Int) => (show (Tryd.prog.info? 70).map (·.size) = some (#[.slice ac ctx.length capc, .int .u64 (pos : Int), .int .u32 x] : Array Value).size by kernel_rfl))
  have HLO := Lib.hid (fun q (hq : q = (decide (3000 < s.length) || decide (200 < ctx.length))) W g E fr hg => long_any q ac ctx.length capc (pos : Int) (ep : Int) as_ s.length caps g E fr W hg hq)
  by_cases hlong : 3000 < s.length ∨ 200 < ctx.length
  · have HLT := Lib.hid (fun W g E fr hg => HLO.out true (by simp; omega) W g E fr hg)
    generalize bytes key = kb at *
    clear hlong HLO hk hG hcs hs
    generalize ctx.length = m at *
    generalize s.length = n at *
    go_enter Tryd.func22, Tryd.ntmps22
    go_upto_region 1 with fail
    obtain ⟨X, hX, hBX, hXs, hX0, hX1⟩ := alloc2 w (.cells kb 32) (.cells #[.slice ac m capc, .int .u64 (pos : Int), .int .u32 (ep : Int)] 70)
    rw [hX]
    have HBX := Lib.hid hBX
    have HX1 := Lib.hid hX1
    clear hX hBX hXs hX0 hX1
    go_wp2_with (first
      | (refine wpList_load_row rfl 70 (.tmp 4) rfl (w.heap.size + 1) rfl _ _ _ _ HX1.out Tryd.underlying70 rfl (HIP.out _) ?_)
      | (go_at_call 56; (with_reducible refine Calls.mono (HLT.out _ _ _ _ (heap_alloc_new X _)) ?_); rintro e w1 ⟨rfl, hb⟩; have HB1 := Lib.hid (HBX.out.trans ((((Below.refl X.heap.size X).alloc (Nat.le_refl _) _).trans (hb.mono (by simp))).mono HBX.out.size)); clear hb)
      | (go_at_call 52; (with_reducible refine Calls.mono (HAW.out _ HB1.out) ?_); rintro e w2 ⟨rfl, hb⟩; have HB2 := Lib.hid (HB1.out.trans (hb.mono HB1.out.size)); clear hb))
    go_ret
    exact ⟨rfl, HB2.out⟩
  · have HLT := Lib.hid (fun W g E fr hg => HLO.out false (by simp; omega) W g E fr hg)
    obtain ⟨t, x, er, h1, h2⟩ := opens_same key ctx s pos ep hk (by omega) (.slice ac ctx.length capc) hp (by omega)
    have HO1 := Lib.hid (fun v W (hv : SlB W v s) (hB : Below w.heap.size w W) => h1 v W hv (hcs.below hB (Nat.le_refl _)) (hG.below hB hgz))
    have HO2 := Lib.hid (fun W (hB : Below w.heap.size w W) => h2 _ W (hs.below hB (Nat.le_refl _)) (hcs.below hB (Nat.le_refl _)))
    have HS := Lib.hid (fun W (hB : Below w.heap.size w W) => hs.below hB (Nat.le_refl _))
    have HSN := Lib.hid (show s.length ≤ 3000 by omega)
    obtain ⟨kb, hkb⟩ : ∃ kb, bytes key = kb := ⟨_, rfl⟩
    rw [hkb] at HIK HO1 HO2 ⊢
    obtain ⟨TS, hTS⟩ : ∃ TS, strB t = TS := ⟨_, rfl⟩
    obtain ⟨SS, hSS⟩ : ∃ SS, strB s = SS := ⟨_, rfl⟩
    have HTS := Lib.hid hTS
    have HSS := Lib.hid hSS
    have HNN := Lib.hid (show s.length = s.length from rfl)
    clear hlong HLO hk hG hcs hs hkb h1 h2 hTS hSS
    generalize ctx.length = m at *
    obtain ⟨n, hn⟩ : ∃ n, s.length = n := ⟨_, rfl⟩
    rw [hn] at HLT HO2 HS HSN ⊢
    have HN := Lib.hid hn
    clear hn HNN
    go_enter Tryd.func22, Tryd.ntmps22
    go_upto_region 1 with fail
    obtain ⟨X, hX, hBX, hXs, hX0, hX1⟩ := alloc2 w (.cells kb 32) (.cells #[.slice ac m capc, .int .u64 (pos : Int), .int .u32 (ep : Int)] 70)
    rw [hX]
    have HBX := Lib.hid hBX
    have HX1 := Lib.hid hX1
    have HXR := Lib.hid (fun W (hW : Below X.heap.size X W) => And.intro ((hW.block w.heap.size (by omega)).trans hX0) ((hW.block (w.heap.size + 1) (by omega)).trans hX1))
    clear hX hBX hXs hX0 hX1
    go_upto_region 3 with (first
      | (refine wpList_load_row rfl 70 (.tmp 4) rfl (w.heap.size + 1) rfl _ _ _ _ HX1.out Tryd.underlying70 rfl (HIP.out _) ?_)
      | (go_at_call 56; (with_reducible refine Calls.mono (HLT.out _ _ _ _ (heap_alloc_new X _)) ?_); rintro e w1 ⟨rfl, hb⟩; have HB1 := Lib.hid (((Below.refl X.heap.size X).alloc (Nat.le_refl _) _).trans (hb.mono (by simp))); clear hb))
    have HW1 := Lib.hid (HBX.out.trans (HB1.out.mono HBX.out.size))
    go_upto_region 4 with (at_builtin; refine wpList_append_b rfl (.tmp 19) (.tmp 20) 22 5 rfl Tryd.underlying22 info_u8 w1.heap.size _ [] (OwnB.made w1 [] (Nat.le_refl _) (by simp)) rfl _ _ ((HS.out _ HW1.out).alloc _) rfl (by have := HN.out; have := HSN.out; simp; omega) (by simp) ?_; intro v5 w5 ho hg hn'; rw [List.nil_append] at ho; obtain ⟨a5, c5, rfl⟩ := ho.sl.len; have HO5 := Lib.hid ho.sl; have HB5 := Lib.hid (HB1.out.trans ((((Below.refl w1.heap.size w1).alloc (Nat.le_refl _) _).grown hg (by simp) (fun k e => (World.ownsRow.lt (OwnB.made (E := 5) (base := w1.heap.size) w1 [] (Nat.le_refl _) (by simp)) k e).1)).mono HB1.out.size)); clear ho hg hn')
    have HW5 := Lib.hid (HBX.out.trans (HB5.out.mono HBX.out.size))
    have HR5 := Lib.hid (HXR.out _ HB5.out)
    go_upto_region 5 with (first
      | (refine wpList_load_row rfl 32 (.tmp 3) rfl w.heap.size rfl _ _ _ _ HR5.out.1 Tryd.underlying32 rfl HIK.out ?_)
      | (refine wpList_load_row rfl 70 (.tmp 4) rfl (w.heap.size + 1) rfl _ _ _ _ HR5.out.2 Tryd.underlying70 rfl (HIP.out _) ?_)
      | (go_at_call 55; (with_reducible refine Calls.mono (HO1.out _ _ HO5.out HW5.out) ?_); rintro e w6 ⟨v6, rfl, ho, hb⟩; obtain ⟨a6, c6, rfl⟩ := ho.len; have HO6 := Lib.hid ho; have HO7 := Lib.hid (HO5.out.below hb (Nat.le_refl _)); have HB6 := Lib.hid (HB5.out.trans (hb.mono HB5.out.size)); clear ho hb))
    have HW6 := Lib.hid (HBX.out.trans (HB6.out.mono HBX.out.size))
    have HR6 := Lib.hid (HXR.out _ HB6.out)
    have d0 := cell_of_row w6 (w.heap.size + 1) 0 _ _ _ HR6.out.2
    have d1 := cell_of_row w6 (w.heap.size + 1) 1 _ _ _ HR6.out.2
    go_upto_region 6 with (first
      | (refine wpList_load_row rfl 32 (.tmp 3) rfl w.heap.size rfl _ _ _ _ HR6.out.1 Tryd.underlying32 rfl HIK.out ?_)
      | (go_at_call 59; (with_reducible refine Calls.mono (HO2.out _ HW6.out) ?_); rintro e w8 ⟨v8, rfl, ho, hb⟩; obtain ⟨a8, c8, rfl⟩ := ho.len; have HO8 := Lib.hid ho; have HO9 := Lib.hid (HO6.out.below hb (Nat.le_refl _)); have HO10 := Lib.hid (HO7.out.below hb (Nat.le_refl _)); have HW8 := Lib.hid (HW6.out.trans (hb.mono HW6.out.size)); clear ho hb))
    have k1 := conv_any HO8.out
    have k2 := conv_any HO9.out
    have k3 := conv_any HO10.out
    have k4 := conv_any (HS.out _ HW8.out)
    rw [HTS.out] at k1 k2
    rw [HSS.out] at k3 k4
    clear d0 d1
    go_wp2_with (go_at_call 52; (with_reducible refine Calls.mono (HAW.out _ HW8.out) ?_); rintro e w9 ⟨rfl, hb⟩; have HB9 := Lib.hid (HW8.out.trans (hb.mono HW8.out.size)); clear hb)
    go_ret
    exact ⟨rfl, HB9.out⟩
end Go.Proofs.YtnoilogepkelaaaDoor
