/-
  The law HmacApart: its walk.
-/
import Derived.Test.YtnoilogepkelaaaDoorHmaF
namespace Go.Proofs.YtnoilogepkelaaaDoor
set_option linter.unusedVariables false
set_option linter.unusedSimpArgs false
open Go Go.RowKit

theorem SlL.block {w : World} {b : Nat} {t : TypeId} {fr : Nat × Nat} (vs : List Value) (h : w.heap[b]? = some (.cells vs.toArray t fr)) (n : Nat) (hn : n = vs.length) (hm : vs.length ≤ 1000) : SlL w (.slice (some ⟨b, 0, none⟩) n n) vs := by
  subst hn
  refine .inr ⟨b, 0, vs.length, rfl, Nat.le_refl _, by unfold maxLen; omega, (Array.getElem?_eq_some_iff.1 h).1, fun j hj => ?_⟩
  rw [cell_of_row w b (0 + j) _ _ _ h, Nat.zero_add]
  simp [hj]
/-- Derive of one part, of two parts that lie in a new block. -/
theorem derive1 (key name p : List (BitVec 8)) (hk : key.length = 32) (hn : name.length ≤ 1000000) (u : Value) (w : World) (E : TypeId) (hs : SlB w u p) (hp : p.length ≤ 1000000) (hG : Glob w) :
    Calls Tryd.prog 45 #[.agg (bytes key), .string (strB name), .slice (some ⟨w.heap.size, 0, none⟩) 1 1] (w.alloc (.cells #[u] E)) fun e w' => e = .returned (.agg (bytes (Hma.derive_ key name [p]))) ∧ Below w.heap.size w w' := by
  refine (derive_any key name [p] hk hn [u] _ _ (SlL.block [u] (heap_alloc_new w _) 1 rfl (by simp)) rfl (fun j hj => ?_) (fun j hj => ?_) (by simp) (hG.below ((Below.refl _ w).alloc (Nat.le_refl _) _) hG.size)).mono ?_
  · obtain rfl : j = 0 := by simp at hj; omega
    exact hs.alloc _
  · obtain rfl : j = 0 := by simp at hj; omega
    exact hp
  · rintro e w' ⟨rfl, hb⟩
    exact ⟨rfl, ((Below.refl _ w).alloc (Nat.le_refl _) _).trans (hb.mono (by simp))⟩
theorem derive2g (key name p q : List (BitVec 8)) (hk : key.length = 32) (hn : name.length ≤ 1000000) (u v : Value) (w : World) (g : Nat) (E : TypeId) (fr : Nat × Nat) (hg : w.heap[g]? = some (.cells #[u, v] E fr)) (hs : SlB w u p) (hs' : SlB w v q) (hp : p.length ≤ 1000000) (hq : q.length ≤ 1000000) (hG : Glob w) :
    Calls Tryd.prog 45 #[.agg (bytes key), .string (strB name), .slice (some ⟨g, 0, none⟩) 2 2] w fun e w' => e = .returned (.agg (bytes (Hma.derive_ key name [p, q]))) ∧ Below w.heap.size w w' := by
  refine derive_any key name [p, q] hk hn [u, v] _ _ (SlL.block [u, v] hg 2 rfl (by simp)) rfl (fun j hj => ?_) (fun j hj => ?_) (by simp) hG
  · have h2 : j = 0 ∨ j = 1 := by simp at hj; omega
    rcases h2 with rfl | rfl
    · exact hs
    · exact hs'
  · have h2 : j = 0 ∨ j = 1 := by simp at hj; omega
    rcases h2 with rfl | rfl
    · exact hp
    · exact hq

def fromAd (a : Option Addr) (cap k : Nat) : Option Addr := if cap = k then a else a.map (fun x => x.add k)
/-- The text of a name and a piece; of a name and two. -/
def Hma.text1 (name b : List (BitVec 8)) : List (BitVec 8) := Hma.piece (Hma.piece [] name) b
def Hma.text2 (name b : List (BitVec 8)) (i : Nat) : List (BitVec 8) := Hma.piece (Hma.piece (Hma.piece [] name) (b.take i)) (b.drop i)
theorem Hma.text1_length (name b : List (BitVec 8)) : (Hma.text1 name b).length = 8 + name.length + b.length := by
  unfold Hma.text1
  rw [Hma.piece_length, Hma.piece_length]
  simp
  omega
theorem Hma.text2_length (name b : List (BitVec 8)) (i : Nat) (h : i ≤ b.length) : (Hma.text2 name b i).length = 12 + name.length + b.length := by
  unfold Hma.text2
  rw [Hma.piece_length, Hma.piece_length, Hma.piece_length, List.length_take, List.length_drop]
  simp
  omega

set_option maxRecDepth 100000 in
set_option maxHeartbeats 4000000 in
theorem law_hmacApart {w : World} (key : List (BitVec 8)) (hk : key.length = 32) (nm0 : List (BitVec 8)) (v2 : Value) (b0 : List (BitVec 8)) (h2 : SlB w v2 b0) (hG : Glob w) :
    Calls Tryd.prog 14 #[.agg (bytes key), .string (strB nm0), v2] w fun e w' => e = .returned (.bool true) ∧ Below w.heap.size w w' := by
  have hgz := hG.size
  obtain ⟨nm, hnm⟩ : ∃ nm, nm0.take 200 = nm := ⟨_, rfl⟩
  obtain ⟨b, hb⟩ : ∃ b, b0.take 600 = b := ⟨_, rfl⟩
  have hnl : nm.length ≤ 200 := by rw [← hnm, List.length_take]; omega
  have hbl : b.length ≤ 600 := by rw [← hb, List.length_take]; omega
  have HCU := Lib.hid (fun W (hB : Below w.heap.size w W) => cut_any b0 v2 W (h2.below hB (Nat.le_refl _)))
  rw [hb] at HCU
  have HGB := Lib.hid (fun W (hB : Below w.heap.size w W) => hG.below hB hgz)
  have HAW := Lib.hid (fun W (hB : Below w.heap.size w W) => hworks_any W (hG.below hB hgz))
  have hz0 := strB_size nm0
  have hex := strB_take nm0 200
  obtain ⟨NM, hNM⟩ : ∃ NM, strB nm = NM := ⟨_, rfl⟩
  have hcase : nm0.length ≤ 200 ∧ (strB nm0).extract 0 nm0.length = NM ∨ 200 < nm0.length ∧ (strB nm0).extract 0 200 = NM := by
    by_cases h : nm0.length ≤ 200
    · exact .inl ⟨h, by rw [strB_take, ← hNM, ← hnm, List.take_of_length_le h, List.take_of_length_le (Nat.le_refl _)]⟩
    · exact .inr ⟨by omega, by rw [hex, hnm, hNM]⟩
  have HNM := Lib.hid hNM
  clear hnm hb h2 hG hex hNM
  generalize strB nm0 = S0 at *
  generalize nm0.length = n0 at *
  obtain ⟨kb, hkb⟩ : ∃ kb, bytes key = kb := ⟨_, rfl⟩
  rw [hkb]
  have HKB := Lib.hid hkb
  have HK := Lib.hid hk
  clear hk hkb
  obtain ⟨X, hX, hBX, hXs, hX0⟩ := alloc1 w (.cells kb 32)
  have HX := Lib.hid hX
  have HBX := Lib.hid hBX
  have HX0 := Lib.hid hX0
  clear hX hBX hX0 hXs
  have HNL := Lib.hid hnl
  have HBL := Lib.hid hbl
  go_enter Tryd.func14, Tryd.ntmps14
  go_upto_region 1 with fail
  rw [HX.out]
  go_cut [1] (fun s1 wx => s1 = .string NM ∧ wx = X)
  case first =>
    rcases hcase with ⟨hc, he⟩ | ⟨hc, he⟩
    all_goals
      go_wp2
      go_meet
      case rel => exact ⟨rfl, rfl⟩
  case rest =>
    obtain ⟨rfl, rfl⟩ := hcut
    clear hcase hz0
    go_upto_region 3 with (go_at_call 40; refine (HCU.out _ HBX.out).mono ?_; rintro e w' ⟨u, rfl, hu, rfl⟩; have HU := Lib.hid hu; clear hu)
    obtain ⟨a, cap, rfl⟩ := HU.out.len
    have hcb := HU.out.bounds.2
    have HIK := Lib.hid (show (Tryd.prog.info? 32).map (·.size) = some kb.size by rw [← HKB.out, bytes_size, HK.out]; kernel_rfl)
    have HDR := Lib.hid (fun W (u : Value) (h : SlB W u b) (hB : Below w.heap.size w W) => derive1 key nm b HK.out (by omega) u W 22 h (by omega) (HGB.out W hB))
    rw [HKB.out, HNM.out] at HDR
    have HT1 := Lib.hid (show Hma.derive_ key nm [b] = Hma.tag key (Hma.text1 nm b) from rfl)
    have HT2 := Lib.hid (fun i => (show Hma.derive_ key nm [b.take i, b.drop i] = Hma.tag key (Hma.text2 nm b i) from rfl))
    have HL1 := Lib.hid (Hma.text1_length nm b)
    have HL2 := Lib.hid (fun i h => Hma.text2_length nm b i h)
    have HMA := Lib.hid (fun tx v0 v1 W (h0 : SlB W v0 key) (h1 : SlB W v1 tx) (hl : tx.length ≤ 1000) (hB : Below w.heap.size w W) => hmac_any key tx v0 v1 W h0 h1 (by rw [HK.out]; omega) (by omega) (HGB.out W hB))
    have HIT := Lib.hid (fun tx => (show (Tryd.prog.info? 32).map (·.size) = some (bytes (Hma.tag key tx)).size by rw [bytes_size, Hma.tag_length]; kernel_rfl))
    have HTZ := Lib.hid (fun tx => Hma.tag_length key tx)
    have HNE := Lib.hid (fun tx W => run_neq_hash (n := 32) Tryd.underlying32 (by kernel_rfl) (Hma.tag key tx) (Hma.tag_length _ _) W)
    obtain ⟨n, hn⟩ : ∃ n, b.length = n := ⟨_, rfl⟩
    rw [hn] at HU hcb hbl HBL HL1 HL2 ⊢
    have HN := Lib.hid hn
    have HP1 := Lib.hid (show Hma.text1 nm b = Hma.piece (Hma.piece [] nm) b from rfl)
    have HP2 := Lib.hid (fun i => (show Hma.text2 nm b i = Hma.piece (Hma.piece (Hma.piece [] nm) (b.take i)) (b.drop i) from rfl))
    obtain ⟨tx, htx⟩ : ∃ tx, Hma.text1 nm b = tx := ⟨_, rfl⟩
    rw [htx] at HT1 HL1 HP1
    rw [HT1.out] at HDR
    clear hn htx HT1
    go_upto_region 4 with (first
      | (refine wpList_load_row rfl 32 (.tmp 3) rfl w.heap.size rfl _ _ _ _ HX0.out Tryd.underlying32 rfl HIK.out ?_)
      | (go_at_call 45; refine (HDR.out wc _ HU.out HBX.out).mono ?_; rintro e w2 ⟨rfl, hb⟩; have HB2 := Lib.hid hb; clear hb)
      | (refine wpList_store_row rfl 32 (.tmp 7) (.tmp 22) rfl _ _ rfl rfl _ _ (heap_alloc_new _ _) (HIT.out _) (by rw [bytes_size, HTZ.out]; rfl) (bytes_one _) ?_; rw [World.setRow_alloc_new]))
    obtain ⟨Y, hY, hBY, hYs, hY0⟩ := alloc1 w2 (.cells (bytes (Hma.tag key tx)) 32)
    rw [hY]
    have hz2 := HB2.out.size
    have HBY := Lib.hid (HB2.out.trans (hBY.mono hz2))
    have HY0 := Lib.hid hY0
    clear hY hBY hYs hY0
    have HLP := Lib.hid (fun base xs text v u W ho hu h1 h2 h3 => lpiece_any base xs text v u W ho hu h1 h2 h3)
    have hcv := conv_str nm (by omega) Y
    obtain ⟨c4, W4, hc4, hs4, hb4⟩ := hcv
    rw [HNM.out] at hc4
    have HS4 := Lib.hid hs4
    have HB4 := Lib.hid (HBY.out.trans (hb4.mono HBY.out.size))
    have HB4y := Lib.hid hb4
    clear hs4 hb4
    have HPA := Lib.hid (HLP.out W4.heap.size [] nm (.slice none 0 0) _ W4 (OwnB.nil _ _ _) (fun w' h => HS4.out.below h (Nat.le_refl _)) (by have := HNL.out; omega) (by simp) (Nat.le_refl _))
    have HPB := Lib.hid (fun v5 w5 (ho : OwnB 5 W4.heap.size w5 v5 (Hma.piece [] nm)) (hb : Below W4.heap.size W4 w5) => HLP.out W4.heap.size _ b v5 _ w5 ho (fun w' h => HU.out.below (HB4.out.trans ((hb.trans h).mono HB4.out.size)) (Nat.le_refl _)) (by have := HN.out; omega) (by rw [Hma.piece_length]; have := HNL.out; simp; omega) hb.size)
    go_upto_region 5 with (first
      | (go_at_call 46; (with_reducible refine Calls.mono HPA.out ?_); rintro e w5 ⟨v5, rfl, ho, hb⟩; have HO5 := Lib.hid ho; have HB5 := Lib.hid hb; clear ho hb)
      | (go_at_call 46; (with_reducible refine Calls.mono (HPB.out _ _ HO5.out HB5.out) ?_); rintro e w6 ⟨v6, rfl, ho, hb⟩; rw [← HP1.out] at ho; have HO6 := Lib.hid ho; have HB6 := Lib.hid (HB5.out.trans hb); have kc6 := conv_any ho.sl; clear ho hb))
    clear kc6 hc4 HPA HPB
    have HB6Y := Lib.hid (HB4y.out.trans (HB6.out.mono HB4y.out.size))
    have HBZ := Lib.hid (HBX.out.trans ((HBY.out.trans (HB6Y.out.mono HBY.out.size)).mono HBX.out.size))
    have HXZ := Lib.hid (((HBY.out.trans (HB6Y.out.mono HBY.out.size)).block w.heap.size (Array.getElem?_eq_some_iff.1 HX0.out).1).trans HX0.out)
    have HYZ := Lib.hid ((HB6Y.out.block w2.heap.size (Array.getElem?_eq_some_iff.1 HY0.out).1).trans HY0.out)
    have HUZ := Lib.hid (HU.out.below (HBY.out.trans (HB6Y.out.mono HBY.out.size)) (Nat.le_refl _))
    have HTX := Lib.hid (show tx.length ≤ 900 by have := HL1.out; have := HNL.out; omega)
    obtain ⟨TXS, hTXS⟩ : ∃ TXS, strB tx = TXS := ⟨_, rfl⟩
    have HTXS := Lib.hid hTXS
    rw [hTXS]
    have HCV := Lib.hid (fun W => conv_str tx (by have := HTX.out; omega) W)
    rw [hTXS] at HCV
    have HRY := Lib.hid (fun W (hW : Below w6.heap.size w6 W) => rng_bel HYZ.out hW)
    have HRK := Lib.hid (fun W (hW : Below w6.heap.size w6 W) => (show SlB W (.slice (some ⟨w.heap.size, 0, none⟩) 32 32) key from sl_arr key (by rw [HKB.out]; exact (hW.block _ (Array.getElem?_eq_some_iff.1 HXZ.out).1).trans HXZ.out) HK.out.symm (by rw [HK.out]; omega)))
    have HIL := Lib.hid (fun t => (show (Tryd.prog.info? 32).map (·.size) = some (bytes (Hma.tag key t)).toList.length by rw [Array.length_toList]; exact HIT.out t))
    have hq1 := fun x y W => (HNE.out tx W).1 x y
    have hq2 := fun W => (HNE.out tx W).2
    clear hTXS HO5 HO6 HB5 HB6 HB6Y HB4 HB4y HBY HY0 HX0 HS4 HCU HX HB2 hz2
    -- REG A BEGIN
    refine wp_region_held_drew (S := fun W => Below w6.heap.size w6 W) (by kernel_rfl) ((Below.refl _ w6).drew) (fun hHeld => ?_)
    refine wpAnyH_take (i := 0) rfl (by kernel_rfl) (by kernel_rfl) (by kernel_rfl) (fun _ _ _ h => h) (yieldsIf_load_mid (by rfl) 32 (.tmp 7) rfl _ _ rfl ((bytes (Hma.tag key tx)).toList) _ (fun _ h => HRY.out _ h) Tryd.underlying32 rfl (HIL.out tx)) (by assumption) ?_
    try simp only [List.getElem_toArray, List.getElem_cons_zero, List.getElem_cons_succ, Act.put, List.setIfInBounds_toArray, List.set_cons_zero, List.set_cons_succ]
    refine wpAnyH_take (i := 1) (v := ?v1) rfl (by kernel_rfl) (by kernel_rfl) (by kernel_rfl) (fun _ _ _ h => h) (Or.inl ⟨by rfl, ?y1⟩) (by assumption) ?r1
    case y1 =>
      intro w' hSw
      go_split_ands
      go_simp
      try with_reducible rfl
    try simp only [List.getElem_toArray, List.getElem_cons_zero, List.getElem_cons_succ, Act.put, List.setIfInBounds_toArray, List.set_cons_zero, List.set_cons_succ]
    refine wpAnyH_take (i := 2) (v := ?v2) rfl (by kernel_rfl) (by kernel_rfl) (by kernel_rfl) (fun _ _ _ h => h) (Or.inl ⟨by rfl, ?y2⟩) (by assumption) ?r2
    case y2 =>
      intro w' hSw
      go_split_ands
      go_simp
      try with_reducible rfl
    try simp only [List.getElem_toArray, List.getElem_cons_zero, List.getElem_cons_succ, Act.put, List.setIfInBounds_toArray, List.set_cons_zero, List.set_cons_succ]
    refine wpAnyH_ready (rs := [3]) (by kernel_rfl) (by simp) ?_
    refine AllReadyH.cons (i := 3) rfl (fun K hK => ?_) AllReadyH.nil
    obtain ⟨c7, w7, hc7, hs7, hb7⟩ := HCV.out w6.drew
    go_simp
    have HS7 := Lib.hid hs7
    have HB7 := Lib.hid (show Below w6.heap.size w6 w7 from (Below.refl _ w6).drew.trans hb7)
    clear hc7 hs7 hb7
    refine hK.out _ _ (HB7.out) (fun hHeld' => ?_)
    clear hHeld hK K
    have hHeld := hHeld'
    clear hHeld'
    try simp only [List.getElem_toArray, List.getElem_cons_zero, List.getElem_cons_succ, Act.put, List.setIfInBounds_toArray, List.set_cons_zero, List.set_cons_succ]
    refine wpAnyH_ready (rs := [4]) (by kernel_rfl) (by simp) ?_
    refine AllReadyH.cons (i := 4) rfl (fun K hK => ?_) AllReadyH.nil
    go_simp
    go_at_call 41
    refine (HMA.out tx _ _ _ (HRK.out _ HB7.out) HS7.out (by have := HTX.out; omega) (HBZ.out.trans (HB7.out.mono HBZ.out.size))).mono ?_
    rintro e w8 ⟨rfl, hb⟩
    have HB8 := Lib.hid (HB7.out.trans (hb.mono HB7.out.size))
    clear hb
    refine hK.out _ _ (HB8.out) (fun hHeld' => ?_)
    clear hHeld hK K
    have hHeld := hHeld'
    clear hHeld'
    try simp only [List.getElem_toArray, List.getElem_cons_zero, List.getElem_cons_succ, Act.put, List.setIfInBounds_toArray, List.set_cons_zero, List.set_cons_succ]
    refine wpAnyH_take (i := 5) (v := ?v3) rfl (by kernel_rfl) (by kernel_rfl) (by kernel_rfl) (fun _ _ _ h => h) (Or.inl ⟨by rfl, ?y3⟩) (by assumption) ?r3
    case y3 =>
      intro w' hSw
      go_split_ands
      go_simp
      try with_reducible rfl
    try simp only [List.getElem_toArray, List.getElem_cons_zero, List.getElem_cons_succ, Act.put, List.setIfInBounds_toArray, List.set_cons_zero, List.set_cons_succ]
    refine wpAnyH_done (by kernel_rfl) ?_ _
    -- REG A END
    clear hHeld hq1 hq2
    have HSF := Lib.hid (fun i (hi : i ≤ n) W (hW : Below w6.heap.size w6 W) => (show SlB W (.slice a i cap) (b.take i) ∧ SlB W (.slice (fromAd a cap i) (n - i) (cap - i)) (b.drop i) from ⟨(HUZ.out.below hW (Nat.le_refl _)).upTo i hi, (HUZ.out.below hW (Nat.le_refl _)).from_ i hi⟩))
    have hsc : n ≤ cap := by omega
    go_wp2
    go_loopw [9] (fun s9 wr => ∃ i : Nat, i ≤ 20 ∧ s9 = .int .i64 i ∧ Hid (Below w6.heap.size w6 wr)) (fun s9 _ => 21 - (intOf s9).toNat)
    case atStart => exact ⟨0, by omega, rfl, HB8⟩
    case round =>
      clear HB8
      obtain ⟨i, hi20, rfl, HB⟩ := hrel
      have hsz := HB.out.size
      by_cases h1 : i ≤ n
      · by_cases h2 : i < 20
        · have h1' : (i : Int) ≤ (n : Int) := by omega
          have h2' : (i : Int) < 20 := by omega
          have hi0 : (0 : Int) ≤ (i : Int) := by omega
          have hic : (i : Int) ≤ (cap : Int) := by omega
          go_upto_region 10 with fail
          have HSI := Lib.hid (HSF.out i h1)
          have hcv := conv_str nm (by have := HNL.out; omega) wr.drew
          rw [HNM.out, show wr.drew.heap.size = wr.heap.size from rfl] at hcv
          obtain ⟨c9, w9, hc9, hs9, hb9⟩ := hcv
          have HB9r := Lib.hid (show Below wr.heap.size wr w9 from (Below.refl _ wr).drew.trans hb9)
          have HB9 := Lib.hid (HB.out.trans (HB9r.out.mono HB.out.size))
          have HLN := Lib.hid (show nm.length ≤ 200 ∧ (b.take i).length ≤ 600 ∧ (b.drop i).length ≤ 600 by refine ⟨HNL.out, ?_, ?_⟩ <;> simp <;> have := HN.out <;> omega)
          have HPA := Lib.hid (HLP.out w9.heap.size [] nm (.slice none 0 0) _ w9 (OwnB.nil _ _ _) (fun w' h => hs9.below h (Nat.le_refl _)) (by have := HNL.out; omega) (by simp) (Nat.le_refl _))
          have HPB := Lib.hid (fun v5 w5 (ho : OwnB 5 w9.heap.size w5 v5 (Hma.piece [] nm)) (hb : Below w9.heap.size w9 w5) => HLP.out w9.heap.size _ (b.take i) v5 _ w5 ho (fun w' h => (HSI.out w' (HB9.out.trans ((hb.trans h).mono HB9.out.size))).1) (by have := HLN.out.2.1; omega) (by rw [Hma.piece_length]; have := HNL.out; simp; omega) hb.size)
          have HPC := Lib.hid (fun v5 w5 (ho : OwnB 5 w9.heap.size w5 v5 (Hma.piece (Hma.piece [] nm) (b.take i))) (hb : Below w9.heap.size w9 w5) => HLP.out w9.heap.size _ (b.drop i) v5 _ w5 ho (fun w' h => (HSI.out w' (HB9.out.trans ((hb.trans h).mono HB9.out.size))).2) (by have := HLN.out.2.2; omega) (by rw [Hma.piece_length, Hma.piece_length]; have := HLN.out; simp; omega) hb.size)
          clear hs9 hb9
          have HT := Lib.hid (HP2.out i)
          have HTL := Lib.hid (HL2.out i h1)
          obtain ⟨ty, hty⟩ : ∃ ty, Hma.text2 nm b i = ty := ⟨_, rfl⟩
          rw [hty] at HT HTL
          obtain ⟨TYS, hTYS⟩ : ∃ TYS, strB ty = TYS := ⟨_, rfl⟩
          have HTYS := Lib.hid hTYS
          have hne : ¬ TYS = TXS := by
            intro he
            rw [← hTYS, ← HTXS.out] at he
            have h3 := congrArg List.length (strB_inj he)
            have h4 := HTL.out
            have h5 := HL1.out
            omega
          have HTY := Lib.hid (show ty.length ≤ 900 by have h4 := HTL.out; have h6 := HNL.out; omega)
          have HCY := Lib.hid (fun W => conv_str ty (by have := HTY.out; omega) W)
          rw [hTYS] at HCY
          clear hTYS
          -- REG B BEGIN
          refine wp_region_held_drew (S := fun _ => True) (by kernel_rfl) (trivial) (fun hHeld => ?_)
          refine wpAnyH_take (i := 0) (v := ?v4) rfl (by kernel_rfl) (by kernel_rfl) (by kernel_rfl) (fun _ _ _ h => h) (Or.inl ⟨by rfl, ?y4⟩) (by assumption) ?r4
          case y4 =>
            intro w' hSw
            go_split_ands
            go_simp
            try with_reducible rfl
          try simp only [List.getElem_toArray, List.getElem_cons_zero, List.getElem_cons_succ, Act.put, List.setIfInBounds_toArray, List.set_cons_zero, List.set_cons_succ]
          refine wpAnyH_take (i := 3) (v := ?v5) rfl (by kernel_rfl) (by kernel_rfl) (by kernel_rfl) (fun _ _ _ h => h) (Or.inl ⟨by rfl, ?y5⟩) (by assumption) ?r5
          case y5 =>
            intro w' hSw
            go_split_ands
            go_simp
            try with_reducible rfl
          try simp only [List.getElem_toArray, List.getElem_cons_zero, List.getElem_cons_succ, Act.put, List.setIfInBounds_toArray, List.set_cons_zero, List.set_cons_succ]
          refine wpAnyH_take (i := 4) (v := ?v6) rfl (by kernel_rfl) (by kernel_rfl) (by kernel_rfl) (fun _ _ _ h => h) (Or.inl ⟨by rfl, ?y6⟩) (by assumption) ?r6
          case y6 =>
            intro w' hSw
            go_split_ands
            go_simp
            try with_reducible rfl
          try simp only [List.getElem_toArray, List.getElem_cons_zero, List.getElem_cons_succ, Act.put, List.setIfInBounds_toArray, List.set_cons_zero, List.set_cons_succ]
          refine wpAnyH_take (i := 5) (v := ?v7) rfl (by kernel_rfl) (by kernel_rfl) (by kernel_rfl) (fun _ _ _ h => h) (Or.inl ⟨by rfl, ?y7⟩) (by assumption) ?r7
          case y7 =>
            intro w' hSw
            go_split_ands
            go_simp
            try with_reducible rfl
          try simp only [List.getElem_toArray, List.getElem_cons_zero, List.getElem_cons_succ, Act.put, List.setIfInBounds_toArray, List.set_cons_zero, List.set_cons_succ]
          refine wpAnyH_take (i := 7) (v := ?v8) rfl (by kernel_rfl) (by kernel_rfl) (by kernel_rfl) (fun _ _ _ h => h) (Or.inl ⟨by rfl, ?y8⟩) (by assumption) ?r8
          case y8 =>
            intro w' hSw
            go_split_ands
            go_simp
            try with_reducible rfl
          try simp only [List.getElem_toArray, List.getElem_cons_zero, List.getElem_cons_succ, Act.put, List.setIfInBounds_toArray, List.set_cons_zero, List.set_cons_succ]
          refine wpAnyH_take (i := 8) (v := ?v9) rfl (by kernel_rfl) (by kernel_rfl) (by kernel_rfl) (fun _ _ _ h => h) (Or.inl ⟨by rfl, ?y9⟩) (by assumption) ?r9
          case y9 =>
            intro w' hSw
            go_split_ands
            go_simp
            try with_reducible rfl
          try simp only [List.getElem_toArray, List.getElem_cons_zero, List.getElem_cons_succ, Act.put, List.setIfInBounds_toArray, List.set_cons_zero, List.set_cons_succ]
          refine wpAnyH_take (i := 9) (v := ?v10) rfl (by kernel_rfl) (by kernel_rfl) (by kernel_rfl) (fun _ _ _ h => h) (Or.inl ⟨by rfl, ?y10⟩) (by assumption) ?r10
          case y10 =>
            intro w' hSw
            go_split_ands
            go_simp
            rw [show (if cap = i then a else Option.map (fun x => x.add i) a) = fromAd a cap i from rfl]
          try simp only [List.getElem_toArray, List.getElem_cons_zero, List.getElem_cons_succ, Act.put, List.setIfInBounds_toArray, List.set_cons_zero, List.set_cons_succ]
          refine wpAnyH_ready (rs := [1]) (by kernel_rfl) (by simp) ?_
          refine AllReadyH.cons (i := 1) rfl (fun K hK => ?_) AllReadyH.nil
          go_simp
          clear hc9
          refine hK.out _ _ (trivial) (fun hHeld' => ?_)
          clear hHeld hK K
          have hHeld := hHeld'
          clear hHeld'
          try simp only [List.getElem_toArray, List.getElem_cons_zero, List.getElem_cons_succ, Act.put, List.setIfInBounds_toArray, List.set_cons_zero, List.set_cons_succ]
          refine wpAnyH_ready (rs := [2]) (by kernel_rfl) (by simp) ?_
          refine AllReadyH.cons (i := 2) rfl (fun K hK => ?_) AllReadyH.nil
          go_simp
          go_at_call 46
          (with_reducible refine Calls.mono HPA.out ?_)
          rintro e w10 ⟨v10, rfl, ho, hb⟩
          have HO10 := Lib.hid ho
          have HB10 := Lib.hid hb
          clear ho hb HPA
          refine hK.out _ _ (trivial) (fun hHeld' => ?_)
          clear hHeld hK K
          have hHeld := hHeld'
          clear hHeld'
          try simp only [List.getElem_toArray, List.getElem_cons_zero, List.getElem_cons_succ, Act.put, List.setIfInBounds_toArray, List.set_cons_zero, List.set_cons_succ]
          refine wpAnyH_ready (rs := [6]) (by kernel_rfl) (by simp) ?_
          refine AllReadyH.cons (i := 6) rfl (fun K hK => ?_) AllReadyH.nil
          go_simp
          go_at_call 46
          (with_reducible refine Calls.mono (HPB.out _ _ HO10.out HB10.out) ?_)
          rintro e w11 ⟨v11, rfl, ho, hb⟩
          have HO11 := Lib.hid ho
          have HB11 := Lib.hid (HB10.out.trans hb)
          clear ho hb HPB HO10
          refine hK.out _ _ (trivial) (fun hHeld' => ?_)
          clear hHeld hK K
          have hHeld := hHeld'
          clear hHeld'
          try simp only [List.getElem_toArray, List.getElem_cons_zero, List.getElem_cons_succ, Act.put, List.setIfInBounds_toArray, List.set_cons_zero, List.set_cons_succ]
          refine wpAnyH_ready (rs := [10]) (by kernel_rfl) (by simp) ?_
          refine AllReadyH.cons (i := 10) rfl (fun K hK => ?_) AllReadyH.nil
          go_simp
          go_at_call 46
          (with_reducible refine Calls.mono (HPC.out _ _ HO11.out HB11.out) ?_)
          rintro e w12 ⟨v12, rfl, ho, hb⟩
          rw [← HT.out] at ho
          have HO12 := Lib.hid ho
          have HB12 := Lib.hid (HB11.out.trans hb)
          clear ho hb HPC HO11
          refine hK.out _ _ (trivial) (fun hHeld' => ?_)
          clear hHeld hK K
          have hHeld := hHeld'
          clear hHeld'
          try simp only [List.getElem_toArray, List.getElem_cons_zero, List.getElem_cons_succ, Act.put, List.setIfInBounds_toArray, List.set_cons_zero, List.set_cons_succ]
          refine wpAnyH_ready (rs := [11]) (by kernel_rfl) (by simp) ?_
          refine AllReadyH.cons (i := 11) rfl (fun K hK => ?_) AllReadyH.nil
          have kc := conv_any HO12.out.sl
          rw [HTYS.out] at kc
          go_simp
          clear kc
          refine hK.out _ _ (trivial) (fun hHeld' => ?_)
          clear hHeld hK K
          have hHeld := hHeld'
          clear hHeld'
          try simp only [List.getElem_toArray, List.getElem_cons_zero, List.getElem_cons_succ, Act.put, List.setIfInBounds_toArray, List.set_cons_zero, List.set_cons_succ]
          refine wpAnyH_take (i := 12) (v := ?v11) rfl (by kernel_rfl) (by kernel_rfl) (by kernel_rfl) (fun _ _ _ h => h) (Or.inl ⟨by rfl, ?y11⟩) (by assumption) ?r11
          case y11 =>
            intro w' hSw
            go_split_ands
            go_simp
            try with_reducible rfl
          try simp only [List.getElem_toArray, List.getElem_cons_zero, List.getElem_cons_succ, Act.put, List.setIfInBounds_toArray, List.set_cons_zero, List.set_cons_succ]
          refine wpAnyH_done (by kernel_rfl) ?_ _
          -- REG B END
          have HV := Lib.hid (HB9.out.trans (HB12.out.mono HB9.out.size))
          have HVW := Lib.hid (HBZ.out.trans (HV.out.mono HBZ.out.size))
          have HXV := Lib.hid ((HV.out.block _ (Array.getElem?_eq_some_iff.1 HXZ.out).1).trans HXZ.out)
          have HRV := Lib.hid (fun W (hW : Below w12.heap.size w12 W) => rng_bel HXV.out hW)
          have HVZ := Lib.hid (show w6.heap.size ≤ w12.heap.size from HV.out.size)
          have hd1 : decide (TYS = TXS) = false := decide_eq_false hne
          have hd2 : (TYS.toList == TXS.toList) = false := by
            have h9 : ¬ TYS.toList = TXS.toList := fun he => hne (by
              rw [ByteArray.toList_eq, ByteArray.toList_eq] at he
              exact ByteArray.ext (Array.toList_inj.1 he))
            simp [h9]
          have hq1 := fun x y W => (HNE.out ty W).1 x y
          have hq2 := fun W => (HNE.out ty W).2
          have HIKL := Lib.hid (show (Tryd.prog.info? 32).map (·.size) = some kb.toList.length by rw [Array.length_toList]; exact HIK.out)
          have HD3 := Lib.hid (fun (g : Nat) W (t : Nat × Nat) (hg : W.heap[g]? = some (.cells #[.slice a i cap, .slice (fromAd a cap i) (n - i) (cap - i)] 22 t)) (hB : Below w6.heap.size w6 W) => (show Calls Tryd.prog 45 #[.agg kb, .string NM, .slice (some ⟨g, 0, none⟩) 2 2] W fun e w' => e = .returned (.agg (bytes (Hma.tag key ty))) ∧ Below W.heap.size W w' by
            have h := derive2g key nm (b.take i) (b.drop i) HK.out (by omega) _ _ W g _ t hg (HSI.out W hB).1 (HSI.out W hB).2 (by have := HLN.out.2.1; omega) (by have := HLN.out.2.2; omega) (HGB.out W (HBZ.out.trans (hB.mono HBZ.out.size)))
            rw [HKB.out, HNM.out, HT2.out i] at h
            rw [hty] at h
            exact h))
          clear hHeld hty
          go_upto_region 11 with fail
          go_cut [76] (fun s wx => s = .bool false ∧ Hid (Below w6.heap.size w6 wx))
          case first =>
            -- REG C BEGIN
            refine wp_region_held_drew (S := fun W => Below w12.heap.size w12 W) (by kernel_rfl) ((Below.refl w12.heap.size w12).drew) (fun hHeld => ?_)
            refine wpAnyH_take (i := 0) (v := ?v12) rfl (by kernel_rfl) (by kernel_rfl) (by kernel_rfl) (fun _ _ _ h => h) (Or.inl ⟨by rfl, ?y12⟩) (by assumption) ?r12
            case y12 =>
              intro w' hSw
              go_split_ands
              go_simp
              try with_reducible rfl
            try simp only [List.getElem_toArray, List.getElem_cons_zero, List.getElem_cons_succ, Act.put, List.setIfInBounds_toArray, List.set_cons_zero, List.set_cons_succ]
            refine wpAnyH_take (i := 1) (v := ?v13) rfl (by kernel_rfl) (by kernel_rfl) (by kernel_rfl) (fun _ _ _ h => h) (Or.inl ⟨by rfl, ?y13⟩) (by assumption) ?r13
            case y13 =>
              intro w' hSw
              go_split_ands
              go_simp
              try with_reducible rfl
            try simp only [List.getElem_toArray, List.getElem_cons_zero, List.getElem_cons_succ, Act.put, List.setIfInBounds_toArray, List.set_cons_zero, List.set_cons_succ]
            refine wpAnyH_take (i := 2) (v := ?v14) rfl (by kernel_rfl) (by kernel_rfl) (by kernel_rfl) (fun _ _ _ h => h) (Or.inl ⟨by rfl, ?y14⟩) (by assumption) ?r14
            case y14 =>
              intro w' hSw
              go_split_ands
              go_simp
              try with_reducible rfl
            try simp only [List.getElem_toArray, List.getElem_cons_zero, List.getElem_cons_succ, Act.put, List.setIfInBounds_toArray, List.set_cons_zero, List.set_cons_succ]
            refine wpAnyH_take (i := 3) (v := ?v15) rfl (by kernel_rfl) (by kernel_rfl) (by kernel_rfl) (fun _ _ _ h => h) (Or.inl ⟨by rfl, ?y15⟩) (by assumption) ?r15
            case y15 =>
              intro w' hSw
              go_split_ands
              go_simp
              try with_reducible rfl
            try simp only [List.getElem_toArray, List.getElem_cons_zero, List.getElem_cons_succ, Act.put, List.setIfInBounds_toArray, List.set_cons_zero, List.set_cons_succ]
            refine wpAnyH_take (i := 4) rfl (by kernel_rfl) (by kernel_rfl) (by kernel_rfl) (fun _ _ _ h => h) (yieldsIf_load_mid (by rfl) 32 (.tmp 3) rfl _ _ rfl (kb.toList) _ (fun _ h => HRV.out _ h) Tryd.underlying32 rfl (HIKL.out)) (by assumption) ?_
            try simp only [List.getElem_toArray, List.getElem_cons_zero, List.getElem_cons_succ, Act.put, List.setIfInBounds_toArray, List.set_cons_zero, List.set_cons_succ]
            refine wpAnyH_take (i := 5) (v := ?v16) rfl (by kernel_rfl) (by kernel_rfl) (by kernel_rfl) (fun _ _ _ h => h) (Or.inl ⟨by rfl, ?y16⟩) (by assumption) ?r16
            case y16 =>
              intro w' hSw
              go_split_ands
              go_simp
              try with_reducible rfl
            try simp only [List.getElem_toArray, List.getElem_cons_zero, List.getElem_cons_succ, Act.put, List.setIfInBounds_toArray, List.set_cons_zero, List.set_cons_succ]
            refine wpAnyH_take (i := 6) (v := ?v17) rfl (by kernel_rfl) (by kernel_rfl) (by kernel_rfl) (fun _ _ _ h => h) (Or.inl ⟨by rfl, ?y17⟩) (by assumption) ?r17
            case y17 =>
              intro w' hSw
              go_split_ands
              go_simp
              try with_reducible rfl
            try simp only [List.getElem_toArray, List.getElem_cons_zero, List.getElem_cons_succ, Act.put, List.setIfInBounds_toArray, List.set_cons_zero, List.set_cons_succ]
            refine wpAnyH_take (i := 7) (v := ?v18) rfl (by kernel_rfl) (by kernel_rfl) (by kernel_rfl) (fun _ _ _ h => h) (Or.inl ⟨by rfl, ?y18⟩) (by assumption) ?r18
            case y18 =>
              intro w' hSw
              go_split_ands
              go_simp
              try with_reducible rfl
            try simp only [List.getElem_toArray, List.getElem_cons_zero, List.getElem_cons_succ, Act.put, List.setIfInBounds_toArray, List.set_cons_zero, List.set_cons_succ]
            refine wpAnyH_take (i := 8) (v := ?v19) rfl (by kernel_rfl) (by kernel_rfl) (by kernel_rfl) (fun _ _ _ h => h) (Or.inl ⟨by rfl, ?y19⟩) (by assumption) ?r19
            case y19 =>
              intro w' hSw
              go_split_ands
              go_simp
              try with_reducible rfl
            try simp only [List.getElem_toArray, List.getElem_cons_zero, List.getElem_cons_succ, Act.put, List.setIfInBounds_toArray, List.set_cons_zero, List.set_cons_succ]
            refine wpAnyH_take (i := 9) (v := ?v20) rfl (by kernel_rfl) (by kernel_rfl) (by kernel_rfl) (fun _ _ _ h => h) (Or.inl ⟨by rfl, ?y20⟩) (by assumption) ?r20
            case y20 =>
              intro w' hSw
              go_split_ands
              go_simp
              try with_reducible rfl
            try simp only [List.getElem_toArray, List.getElem_cons_zero, List.getElem_cons_succ, Act.put, List.setIfInBounds_toArray, List.set_cons_zero, List.set_cons_succ]
            refine wpAnyH_take (i := 10) (v := ?v21) rfl (by kernel_rfl) (by kernel_rfl) (by kernel_rfl) (fun _ _ _ h => h) (Or.inl ⟨by rfl, ?y21⟩) (by assumption) ?r21
            case y21 =>
              intro w' hSw
              go_split_ands
              go_simp
              try with_reducible rfl
            try simp only [List.getElem_toArray, List.getElem_cons_zero, List.getElem_cons_succ, Act.put, List.setIfInBounds_toArray, List.set_cons_zero, List.set_cons_succ]
            refine wpAnyH_take (i := 11) (v := ?v22) rfl (by kernel_rfl) (by kernel_rfl) (by kernel_rfl) (fun _ _ _ h => h) (Or.inl ⟨by rfl, ?y22⟩) (by assumption) ?r22
            case y22 =>
              intro w' hSw
              go_split_ands
              go_simp
              rw [show (if cap = i then a else Option.map (fun x => x.add i) a) = fromAd a cap i from rfl]
            try simp only [List.getElem_toArray, List.getElem_cons_zero, List.getElem_cons_succ, Act.put, List.setIfInBounds_toArray, List.set_cons_zero, List.set_cons_succ]
            refine wpAnyH_take (i := 14) (v := ?v23) rfl (by kernel_rfl) (by kernel_rfl) (by kernel_rfl) (fun _ _ _ h => h) (Or.inl ⟨by rfl, ?y23⟩) (by assumption) ?r23
            case y23 =>
              intro w' hSw
              go_split_ands
              go_simp
              try with_reducible rfl
            try simp only [List.getElem_toArray, List.getElem_cons_zero, List.getElem_cons_succ, Act.put, List.setIfInBounds_toArray, List.set_cons_zero, List.set_cons_succ]
            refine wpAnyH_take (i := 15) (v := ?v24) rfl (by kernel_rfl) (by kernel_rfl) (by kernel_rfl) (fun _ _ _ h => h) (Or.inl ⟨by rfl, ?y24⟩) (by assumption) ?r24
            case y24 =>
              intro w' hSw
              go_split_ands
              go_simp
              try with_reducible rfl
            try simp only [List.getElem_toArray, List.getElem_cons_zero, List.getElem_cons_succ, Act.put, List.setIfInBounds_toArray, List.set_cons_zero, List.set_cons_succ]
            refine wpAnyH_ready (rs := [12, 16]) (by kernel_rfl) (by simp) ?_
            refine (AllReadyH.cons (i := 12) rfl (fun K hK => ?_) (AllReadyH.cons (i := 16) rfl (fun K hK => ?_) AllReadyH.nil))
            · obtain ⟨w_1, hw_1⟩ : ∃ W, (w12.alloc (.cells #[.slice a i cap, .slice (fromAd a cap i) (n - i) (cap - i)] 22)).drew = W := ⟨_, rfl⟩
              go_simp
              try rw [hw_1]
              have HG_2 := Lib.hid (show w_1.heap[w12.heap.size]? = some (.cells #[.slice a i cap, .slice (fromAd a cap i) (n - i) (cap - i)] 22) by rw [← hw_1]; exact heap_alloc_new w12 _)
              have HB_3 := Lib.hid (show Below w12.heap.size w12 w_1 by rw [← hw_1]; exact (Below.alloc (Below.refl w12.heap.size w12) ((Below.refl w12.heap.size w12).drew).size _).drew)
              clear hw_1
              refine hK.out _ _ (HB_3.out) (fun hHeld' => ?_)
              clear hHeld hK K
              have hHeld := hHeld'
              clear hHeld'
              try simp only [List.getElem_toArray, List.getElem_cons_zero, List.getElem_cons_succ, Act.put, List.setIfInBounds_toArray, List.set_cons_zero, List.set_cons_succ]
              refine wpAnyH_ready (rs := [13, 16]) (by kernel_rfl) (by simp) ?_
              refine (AllReadyH.cons (i := 13) rfl (fun K hK => ?_) (AllReadyH.cons (i := 16) rfl (fun K hK => ?_) AllReadyH.nil))
              · go_simp
                go_at_call 45
                have h := HD3.out w12.heap.size w_1 _ HG_2.out (HV.out.trans ((HB_3.out).mono HV.out.size))
                (with_reducible refine Calls.mono h ?_)
                clear h
                rintro e w_4 ⟨rfl, hb⟩
                have HB_5 := Lib.hid ((HB_3.out).trans (hb.mono (HB_3.out).size))
                clear hb
                refine hK.out _ _ (HB_5.out) (fun hHeld' => ?_)
                clear hHeld hK K
                have hHeld := hHeld'
                clear hHeld'
                try simp only [List.getElem_toArray, List.getElem_cons_zero, List.getElem_cons_succ, Act.put, List.setIfInBounds_toArray, List.set_cons_zero, List.set_cons_succ]
                refine wpAnyH_ready (rs := [16]) (by kernel_rfl) (by simp) ?_
                refine AllReadyH.cons (i := 16) rfl (fun K hK => ?_) AllReadyH.nil
                obtain ⟨c_7, w_6, hc, hs, hb⟩ := HCY.out w_4
                go_simp
                have HS_8 := Lib.hid hs
                have HB_9 := Lib.hid ((HB_5.out).trans (hb.mono (HB_5.out).size))
                clear hc hs hb
                refine hK.out _ _ (HB_9.out) (fun hHeld' => ?_)
                clear hHeld hK K
                have hHeld := hHeld'
                clear hHeld'
                try simp only [List.getElem_toArray, List.getElem_cons_zero, List.getElem_cons_succ, Act.put, List.setIfInBounds_toArray, List.set_cons_zero, List.set_cons_succ]
                refine wpAnyH_ready (rs := [17]) (by kernel_rfl) (by simp) ?_
                refine AllReadyH.cons (i := 17) rfl (fun K hK => ?_) AllReadyH.nil
                go_simp
                go_at_call 41
                refine (HMA.out ty _ _ _ (HRK.out _ (HV.out.trans ((HB_9.out).mono HV.out.size))) HS_8.out (by have := HTY.out; omega) (HVW.out.trans ((HB_9.out).mono HVW.out.size))).mono ?_
                rintro e w_10 ⟨rfl, hb⟩
                have HB_11 := Lib.hid ((HB_9.out).trans (hb.mono (HB_9.out).size))
                clear hb
                refine hK.out _ _ (HB_11.out) (fun hHeld' => ?_)
                clear hHeld hK K
                have hHeld := hHeld'
                clear hHeld'
                try simp only [List.getElem_toArray, List.getElem_cons_zero, List.getElem_cons_succ, Act.put, List.setIfInBounds_toArray, List.set_cons_zero, List.set_cons_succ]
                refine wpAnyH_take (i := 18) (v := ?v25) rfl (by kernel_rfl) (by kernel_rfl) (by kernel_rfl) (fun _ _ _ h => h) (Or.inl ⟨by rfl, ?y25⟩) (by assumption) ?r25
                case y25 =>
                  intro w' hSw
                  go_split_ands
                  go_simp
                  try with_reducible rfl
                try simp only [List.getElem_toArray, List.getElem_cons_zero, List.getElem_cons_succ, Act.put, List.setIfInBounds_toArray, List.set_cons_zero, List.set_cons_succ]
                refine wpAnyH_take (i := 19) (v := ?v26) rfl (by kernel_rfl) (by kernel_rfl) (by kernel_rfl) (fun _ _ _ h => h) (Or.inl ⟨by rfl, ?y26⟩) (by assumption) ?r26
                case y26 =>
                  intro w' hSw
                  go_split_ands
                  go_simp
                  try with_reducible rfl
                try simp only [List.getElem_toArray, List.getElem_cons_zero, List.getElem_cons_succ, Act.put, List.setIfInBounds_toArray, List.set_cons_zero, List.set_cons_succ]
                refine wpAnyH_done (by kernel_rfl) ?_ _
                go_wp2_with fail
                go_meet
                exact ⟨rfl, Lib.hid (HV.out.trans ((HB_11.out).mono HV.out.size))⟩
              · obtain ⟨c_13, w_12, hc, hs, hb⟩ := HCY.out w_1
                go_simp
                have HS_14 := Lib.hid hs
                have HB_15 := Lib.hid ((HB_3.out).trans (hb.mono (HB_3.out).size))
                have HG_16 := Lib.hid ((hb.block _ (Array.getElem?_eq_some_iff.1 HG_2.out).1).trans HG_2.out)
                clear hc hs hb
                refine hK.out _ _ (HB_15.out) (fun hHeld' => ?_)
                clear hHeld hK K
                have hHeld := hHeld'
                clear hHeld'
                try simp only [List.getElem_toArray, List.getElem_cons_zero, List.getElem_cons_succ, Act.put, List.setIfInBounds_toArray, List.set_cons_zero, List.set_cons_succ]
                refine wpAnyH_ready (rs := [13]) (by kernel_rfl) (by simp) ?_
                refine AllReadyH.cons (i := 13) rfl (fun K hK => ?_) AllReadyH.nil
                go_simp
                go_at_call 45
                have h := HD3.out w12.heap.size w_12 _ HG_16.out (HV.out.trans ((HB_15.out).mono HV.out.size))
                (with_reducible refine Calls.mono h ?_)
                clear h
                rintro e w_17 ⟨rfl, hb⟩
                have HB_18 := Lib.hid ((HB_15.out).trans (hb.mono (HB_15.out).size))
                have HS_19 := Lib.hid (HS_14.out.below hb (Nat.le_refl _))
                clear hb
                refine hK.out _ _ (HB_18.out) (fun hHeld' => ?_)
                clear hHeld hK K
                have hHeld := hHeld'
                clear hHeld'
                try simp only [List.getElem_toArray, List.getElem_cons_zero, List.getElem_cons_succ, Act.put, List.setIfInBounds_toArray, List.set_cons_zero, List.set_cons_succ]
                refine wpAnyH_ready (rs := [17]) (by kernel_rfl) (by simp) ?_
                refine AllReadyH.cons (i := 17) rfl (fun K hK => ?_) AllReadyH.nil
                go_simp
                go_at_call 41
                refine (HMA.out ty _ _ _ (HRK.out _ (HV.out.trans ((HB_18.out).mono HV.out.size))) HS_19.out (by have := HTY.out; omega) (HVW.out.trans ((HB_18.out).mono HVW.out.size))).mono ?_
                rintro e w_20 ⟨rfl, hb⟩
                have HB_21 := Lib.hid ((HB_18.out).trans (hb.mono (HB_18.out).size))
                clear hb
                refine hK.out _ _ (HB_21.out) (fun hHeld' => ?_)
                clear hHeld hK K
                have hHeld := hHeld'
                clear hHeld'
                try simp only [List.getElem_toArray, List.getElem_cons_zero, List.getElem_cons_succ, Act.put, List.setIfInBounds_toArray, List.set_cons_zero, List.set_cons_succ]
                refine wpAnyH_take (i := 18) (v := ?v27) rfl (by kernel_rfl) (by kernel_rfl) (by kernel_rfl) (fun _ _ _ h => h) (Or.inl ⟨by rfl, ?y27⟩) (by assumption) ?r27
                case y27 =>
                  intro w' hSw
                  go_split_ands
                  go_simp
                  try with_reducible rfl
                try simp only [List.getElem_toArray, List.getElem_cons_zero, List.getElem_cons_succ, Act.put, List.setIfInBounds_toArray, List.set_cons_zero, List.set_cons_succ]
                refine wpAnyH_take (i := 19) (v := ?v28) rfl (by kernel_rfl) (by kernel_rfl) (by kernel_rfl) (fun _ _ _ h => h) (Or.inl ⟨by rfl, ?y28⟩) (by assumption) ?r28
                case y28 =>
                  intro w' hSw
                  go_split_ands
                  go_simp
                  try with_reducible rfl
                try simp only [List.getElem_toArray, List.getElem_cons_zero, List.getElem_cons_succ, Act.put, List.setIfInBounds_toArray, List.set_cons_zero, List.set_cons_succ]
                refine wpAnyH_done (by kernel_rfl) ?_ _
                go_wp2_with fail
                go_meet
                exact ⟨rfl, Lib.hid (HV.out.trans ((HB_21.out).mono HV.out.size))⟩
            · obtain ⟨c_23, w_22, hc, hs, hb⟩ := HCY.out w12.drew
              rw [show w12.drew.heap.size = w12.heap.size from rfl] at hc hs hb
              go_simp
              have HS_24 := Lib.hid hs
              have HB_25 := Lib.hid (((Below.refl w12.heap.size w12).drew).trans (hb.mono ((Below.refl w12.heap.size w12).drew).size))
              clear hc hs hb
              refine hK.out _ _ (HB_25.out) (fun hHeld' => ?_)
              clear hHeld hK K
              have hHeld := hHeld'
              clear hHeld'
              try simp only [List.getElem_toArray, List.getElem_cons_zero, List.getElem_cons_succ, Act.put, List.setIfInBounds_toArray, List.set_cons_zero, List.set_cons_succ]
              refine wpAnyH_ready (rs := [12]) (by kernel_rfl) (by simp) ?_
              refine AllReadyH.cons (i := 12) rfl (fun K hK => ?_) AllReadyH.nil
              obtain ⟨w_26, hw_26⟩ : ∃ W, (w_22.alloc (.cells #[.slice a i cap, .slice (fromAd a cap i) (n - i) (cap - i)] 22)) = W := ⟨_, rfl⟩
              go_simp
              try rw [hw_26]
              have HG_27 := Lib.hid (show w_26.heap[w_22.heap.size]? = some (.cells #[.slice a i cap, .slice (fromAd a cap i) (n - i) (cap - i)] 22) by rw [← hw_26]; exact heap_alloc_new w_22 _)
              have HB_28 := Lib.hid (show Below w12.heap.size w12 w_26 by rw [← hw_26]; exact (Below.alloc (HB_25.out) (HB_25.out).size _))
              have HSnw_26 := Lib.hid (show SlB w_26 _ ty by rw [← hw_26]; exact HS_24.out.alloc _)
              clear hw_26
              refine hK.out _ _ (HB_28.out) (fun hHeld' => ?_)
              clear hHeld hK K
              have hHeld := hHeld'
              clear hHeld'
              try simp only [List.getElem_toArray, List.getElem_cons_zero, List.getElem_cons_succ, Act.put, List.setIfInBounds_toArray, List.set_cons_zero, List.set_cons_succ]
              refine wpAnyH_ready (rs := [13]) (by kernel_rfl) (by simp) ?_
              refine AllReadyH.cons (i := 13) rfl (fun K hK => ?_) AllReadyH.nil
              go_simp
              go_at_call 45
              have h := HD3.out w_22.heap.size w_26 _ HG_27.out (HV.out.trans ((HB_28.out).mono HV.out.size))
              (with_reducible refine Calls.mono h ?_)
              clear h
              rintro e w_29 ⟨rfl, hb⟩
              have HB_30 := Lib.hid ((HB_28.out).trans (hb.mono (HB_28.out).size))
              have HS_31 := Lib.hid (HSnw_26.out.below hb (Nat.le_refl _))
              clear hb
              refine hK.out _ _ (HB_30.out) (fun hHeld' => ?_)
              clear hHeld hK K
              have hHeld := hHeld'
              clear hHeld'
              try simp only [List.getElem_toArray, List.getElem_cons_zero, List.getElem_cons_succ, Act.put, List.setIfInBounds_toArray, List.set_cons_zero, List.set_cons_succ]
              refine wpAnyH_ready (rs := [17]) (by kernel_rfl) (by simp) ?_
              refine AllReadyH.cons (i := 17) rfl (fun K hK => ?_) AllReadyH.nil
              go_simp
              go_at_call 41
              refine (HMA.out ty _ _ _ (HRK.out _ (HV.out.trans ((HB_30.out).mono HV.out.size))) HS_31.out (by have := HTY.out; omega) (HVW.out.trans ((HB_30.out).mono HVW.out.size))).mono ?_
              rintro e w_32 ⟨rfl, hb⟩
              have HB_33 := Lib.hid ((HB_30.out).trans (hb.mono (HB_30.out).size))
              clear hb
              refine hK.out _ _ (HB_33.out) (fun hHeld' => ?_)
              clear hHeld hK K
              have hHeld := hHeld'
              clear hHeld'
              try simp only [List.getElem_toArray, List.getElem_cons_zero, List.getElem_cons_succ, Act.put, List.setIfInBounds_toArray, List.set_cons_zero, List.set_cons_succ]
              refine wpAnyH_take (i := 18) (v := ?v29) rfl (by kernel_rfl) (by kernel_rfl) (by kernel_rfl) (fun _ _ _ h => h) (Or.inl ⟨by rfl, ?y29⟩) (by assumption) ?r29
              case y29 =>
                intro w' hSw
                go_split_ands
                go_simp
                try with_reducible rfl
              try simp only [List.getElem_toArray, List.getElem_cons_zero, List.getElem_cons_succ, Act.put, List.setIfInBounds_toArray, List.set_cons_zero, List.set_cons_succ]
              refine wpAnyH_take (i := 19) (v := ?v30) rfl (by kernel_rfl) (by kernel_rfl) (by kernel_rfl) (fun _ _ _ h => h) (Or.inl ⟨by rfl, ?y30⟩) (by assumption) ?r30
              case y30 =>
                intro w' hSw
                go_split_ands
                go_simp
                try with_reducible rfl
              try simp only [List.getElem_toArray, List.getElem_cons_zero, List.getElem_cons_succ, Act.put, List.setIfInBounds_toArray, List.set_cons_zero, List.set_cons_succ]
              refine wpAnyH_done (by kernel_rfl) ?_ _
              go_wp2_with fail
              go_meet
              exact ⟨rfl, Lib.hid (HV.out.trans ((HB_33.out).mono HV.out.size))⟩
            -- REG C END
          case rest =>
            obtain ⟨rfl, HBend⟩ := hcut
            clear hd1 hd2 hq1 hq2 hne
            go_wp2
            exact ⟨⟨i + 1, by omega, by go_num, HBend⟩, by simp [intOf]; omega⟩
        · obtain rfl : i = 20 := by omega
          have h1' : ((20 : Nat) : Int) ≤ (n : Int) := by omega
          have h1'' : (20 : Int) ≤ (n : Int) := by omega
          go_wp2_with (go_at_call 42; refine (HAW.out _ (HBZ.out.trans (HB.out.mono HBZ.out.size))).mono ?_; rintro e w9 ⟨rfl, hb⟩; have HB9 := Lib.hid ((HBZ.out.trans (HB.out.mono HBZ.out.size)).trans (hb.mono (by have := HBZ.out.size; omega))); clear hb)
          go_ret
          exact ⟨rfl, HB9.out⟩
      · have h1' : ¬ (i : Int) ≤ (n : Int) := by omega
        have hd : decide ((i : Int) ≤ (n : Int)) = false := by simp; omega
        go_wp2_with (go_at_call 42; refine (HAW.out _ (HBZ.out.trans (HB.out.mono HBZ.out.size))).mono ?_; rintro e w9 ⟨rfl, hb⟩; have HB9 := Lib.hid ((HBZ.out.trans (HB.out.mono HBZ.out.size)).trans (hb.mono (by have := HBZ.out.size; omega))); clear hb)
        go_ret
        exact ⟨rfl, HB9.out⟩
end Go.Proofs.YtnoilogepkelaaaDoor
