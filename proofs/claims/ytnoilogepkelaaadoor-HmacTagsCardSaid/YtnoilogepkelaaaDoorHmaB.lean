/-
  hmac.Sum: a tag.
-/
import Derived.Test.YtnoilogepkelaaaDoorHmaA
namespace Go.Proofs.YtnoilogepkelaaaDoor
set_option linter.unusedVariables false
set_option linter.unusedSimpArgs false
open Go Go.RowKit

/-- A slice over an array that is known whole. -/
theorem sl_arr {w : World} {b n : Nat} {t : TypeId} {fr : Nat × Nat} (xs : List (BitVec 8)) (h : w.heap[b]? = some (.cells (bytes xs) t fr)) (hn : n = xs.length) (hm : xs.length ≤ 1000000) : SlB w (.slice (some ⟨b, 0, none⟩) n n) xs := by
  subst hn
  exact SlB.ofRow (C := bytes xs) (bytes_toList _) rfl (Array.getElem?_eq_some_iff.1 h).1 (fun j => cell_of_row w b j _ _ _ h) (Nat.le_refl _) (by unfold maxLen; omega)

set_option maxRecDepth 100000 in
set_option maxHeartbeats 4000000 in
theorem hmac_any (key text : List (BitVec 8)) (v0 v1 : Value) (w : World) (h0 : SlB w v0 key) (h1 : SlB w v1 text) (hl0 : key.length ≤ 50000000) (hl1 : text.length ≤ 40000000) (hG : Glob w) :
    Calls Tryd.prog 41 #[v0, v1] w fun e w' => e = .returned (.agg (bytes (Hma.tag key text))) ∧ Below w.heap.size w w' := by
  obtain ⟨a0, cap0, rfl⟩ := h0.len
  obtain ⟨a1, cap1, rfl⟩ := h1.len
  have hgz := hG.size
  have HGB := Lib.hid (fun W (hB : Below w.heap.size w W) => hG.below hB hgz)
  have HBI := Lib.hid (fun W (hB : Below w.heap.size w W) => (show Calls Tryd.prog 72 #[.slice a0 key.length cap0, .int .u8 54] W fun e w' => e = .returned (.agg (bytes (Hma.by_ 0x36 (Hma.kblock key)))) ∧ Below W.heap.size W w' from block_any key 0x36 _ W (h0.below hB (Nat.le_refl _)) hl0 (HGB.out W hB)))
  have HBO := Lib.hid (fun W (hB : Below w.heap.size w W) => (show Calls Tryd.prog 72 #[.slice a0 key.length cap0, .int .u8 92] W fun e w' => e = .returned (.agg (bytes (Hma.by_ 0x5c (Hma.kblock key)))) ∧ Below W.heap.size W w' from block_any key 0x5c _ W (h0.below hB (Nat.le_refl _)) hl0 (HGB.out W hB)))
  have hli : (Hma.by_ 0x36 (Hma.kblock key)).length = 64 := by simp [Hma.by_, Hma.kblock_length]
  have hlo : (Hma.by_ 0x5c (Hma.kblock key)).length = 64 := by simp [Hma.by_, Hma.kblock_length]
  have htag : Hma.tag key text = Sha.sum (Hma.by_ 0x5c (Hma.kblock key) ++ Sha.sum (Hma.by_ 0x36 (Hma.kblock key) ++ text)) := rfl
  have HS1 := Lib.hid h1
  have HIB := Lib.hid (fun (xs : List (BitVec 8)) (h : xs.length = 64) => (show (Tryd.prog.info? 29).map (·.size) = some (bytes xs).size by rw [bytes_size, h]; kernel_rfl))
  have HIH := Lib.hid (fun (xs : List (BitVec 8)) (h : xs.length = 32) => (show (Tryd.prog.info? 32).map (·.size) = some (bytes xs).size by rw [bytes_size, h]; kernel_rfl))
  obtain ⟨ib, hib⟩ : ∃ ib, Hma.by_ 0x36 (Hma.kblock key) = ib := ⟨_, rfl⟩
  obtain ⟨ob, hob⟩ : ∃ ob, Hma.by_ 0x5c (Hma.kblock key) = ob := ⟨_, rfl⟩
  rw [hib] at HBI hli htag
  rw [hob] at HBO hlo htag
  obtain ⟨ih, hih⟩ : ∃ ih, Sha.sum (ib ++ text) = ih := ⟨_, rfl⟩
  rw [hih] at htag
  have hlh : ih.length = 32 := by rw [← hih]; exact Sha.sum_length _
  obtain ⟨T, hT⟩ : ∃ T, Hma.tag key text = T := ⟨_, rfl⟩
  rw [hT] at htag ⊢
  have hlT : T.length = 32 := by rw [htag]; exact Sha.sum_length _
  have HL := Lib.hid (And.intro hli (And.intro hlo (And.intro hlh hlT)))
  have HC1 := Lib.hid (fun v W (h : SlB W v (ib ++ text)) (hB : Below w.heap.size w W) => sum_any (ib ++ text) v W h (by rw [List.length_append, hli]; omega) (HGB.out W hB))
  have HC2 := Lib.hid (fun v W (h : SlB W v (ob ++ ih)) (hB : Below w.heap.size w W) => sum_any (ob ++ ih) v W h (by rw [List.length_append, hlo, hlh]; omega) (HGB.out W hB))
  rw [hih] at HC1
  rw [← htag] at HC2
  have HLT := Lib.hid hl1
  obtain ⟨n1, hn1⟩ : ∃ n, text.length = n := ⟨_, rfl⟩
  obtain ⟨n0, hn0⟩ : ∃ n, key.length = n := ⟨_, rfl⟩
  rw [hn1] at HS1 ⊢
  rw [hn0] at HBI HBO ⊢
  clear h0 h1 hG hli hlo htag hib hob hih hlh hT hlT hl1 hl0 hn1 hn0
  go_enter Tryd.func41, Tryd.ntmps41
  go_upto_region 1 with fail
  obtain ⟨X0, hX, hBX, hXs, hX0⟩ := alloc1 w (.cells (bytes (List.replicate 32 0)) 32)
  rw [show w.alloc (.cells #[.int .u8 0, .int .u8 0, .int .u8 0, .int .u8 0, .int .u8 0, .int .u8 0, .int .u8 0, .int .u8 0, .int .u8 0, .int .u8 0, .int .u8 0, .int .u8 0, .int .u8 0, .int .u8 0, .int .u8 0, .int .u8 0, .int .u8 0, .int .u8 0, .int .u8 0, .int .u8 0, .int .u8 0, .int .u8 0, .int .u8 0, .int .u8 0, .int .u8 0, .int .u8 0, .int .u8 0, .int .u8 0, .int .u8 0, .int .u8 0, .int .u8 0, .int .u8 0] 32) = X0 from hX]
  have HB0 := Lib.hid hBX
  have HO0 := Lib.hid hX0
  have HX0 := Lib.hid hXs
  clear hX hBX hX0 hXs
  go_upto_region 2 with (first
    | (go_at_call 72; with_reducible refine Calls.mono (HBI.out _ HB0.out) ?_; rintro e w1 ⟨rfl, hb⟩; have HB1 := Lib.hid (HB0.out.trans (hb.mono HB0.out.size)); have HD1 := Lib.hid hb; clear hb)
    | (go_at_call 72; with_reducible refine Calls.mono (HBO.out _ HB1.out) ?_; rintro e w2 ⟨rfl, hb⟩; have HB2 := Lib.hid (HB1.out.trans (hb.mono HB1.out.size)); have HD2 := Lib.hid (HD1.out.trans (hb.mono HD1.out.size)); clear hb)
    | (obtain ⟨Y, hY, hBY, hYs, hY0, hY1⟩ := alloc2 w2 (.cells (bytes (List.replicate 64 0)) 29) (.cells (bytes (List.replicate 64 0)) 29); rw [show (w2.alloc (.cells #[.int .u8 0, .int .u8 0, .int .u8 0, .int .u8 0, .int .u8 0, .int .u8 0, .int .u8 0, .int .u8 0, .int .u8 0, .int .u8 0, .int .u8 0, .int .u8 0, .int .u8 0, .int .u8 0, .int .u8 0, .int .u8 0, .int .u8 0, .int .u8 0, .int .u8 0, .int .u8 0, .int .u8 0, .int .u8 0, .int .u8 0, .int .u8 0, .int .u8 0, .int .u8 0, .int .u8 0, .int .u8 0, .int .u8 0, .int .u8 0, .int .u8 0, .int .u8 0, .int .u8 0, .int .u8 0, .int .u8 0, .int .u8 0, .int .u8 0, .int .u8 0, .int .u8 0, .int .u8 0, .int .u8 0, .int .u8 0, .int .u8 0, .int .u8 0, .int .u8 0, .int .u8 0, .int .u8 0, .int .u8 0, .int .u8 0, .int .u8 0, .int .u8 0, .int .u8 0, .int .u8 0, .int .u8 0, .int .u8 0, .int .u8 0, .int .u8 0, .int .u8 0, .int .u8 0, .int .u8 0, .int .u8 0, .int .u8 0, .int .u8 0, .int .u8 0] 29)).alloc (.cells #[.int .u8 0, .int .u8 0, .int .u8 0, .int .u8 0, .int .u8 0, .int .u8 0, .int .u8 0, .int .u8 0, .int .u8 0, .int .u8 0, .int .u8 0, .int .u8 0, .int .u8 0, .int .u8 0, .int .u8 0, .int .u8 0, .int .u8 0, .int .u8 0, .int .u8 0, .int .u8 0, .int .u8 0, .int .u8 0, .int .u8 0, .int .u8 0, .int .u8 0, .int .u8 0, .int .u8 0, .int .u8 0, .int .u8 0, .int .u8 0, .int .u8 0, .int .u8 0, .int .u8 0, .int .u8 0, .int .u8 0, .int .u8 0, .int .u8 0, .int .u8 0, .int .u8 0, .int .u8 0, .int .u8 0, .int .u8 0, .int .u8 0, .int .u8 0, .int .u8 0, .int .u8 0, .int .u8 0, .int .u8 0, .int .u8 0, .int .u8 0, .int .u8 0, .int .u8 0, .int .u8 0, .int .u8 0, .int .u8 0, .int .u8 0, .int .u8 0, .int .u8 0, .int .u8 0, .int .u8 0, .int .u8 0, .int .u8 0, .int .u8 0, .int .u8 0] 29) = Y from hY]; have HY := Lib.hid (And.intro hYs (And.intro hY0 (And.intro hY1 hBY))); refine wpList_store_row rfl 29 (.tmp 5) (.tmp 9) rfl w2.heap.size _ rfl rfl _ _ hY0 (HIB.out _ HL.out.1) (by rw [bytes_size, bytes_size, HL.out.1]; rfl) (bytes_one _) ?_; have HZ1 := Lib.hid ((setRow_other Y w2.heap.size (w2.heap.size + 1) (bytes ib) (by omega)).trans hY1); clear hY hBY hYs hY0 hY1)
    | (refine wpList_store_row rfl 29 (.tmp 6) (.tmp 11) rfl (w2.heap.size + 1) _ rfl rfl _ _ HZ1.out (HIB.out _ HL.out.2.1) (by rw [bytes_size, bytes_size, HL.out.2.1]; rfl) (bytes_one _) ?_))
  have hK := ((Kept.refl [w2.heap.size, w2.heap.size + 1] Y).setRow (b := w2.heap.size) (by simp) (bytes ib)).setRow (b := w2.heap.size + 1) (by simp) (bytes ob)
  have hr1 := (setRow_other (Y.setRow w2.heap.size (bytes ib)) (w2.heap.size + 1) w2.heap.size (bytes ob) (by omega)).trans (setRow_heap Y w2.heap.size _ (bytes ib) _ _ HY.out.2.1)
  have hr2 := setRow_heap (Y.setRow w2.heap.size (bytes ib)) (w2.heap.size + 1) _ (bytes ob) _ _ HZ1.out
  have hYz := HY.out.1
  have hz2 := HB2.out.size
  have hzd := HD2.out.size
  have hz0 := HX0.out
  have hbz : Below X0.heap.size X0 ((Y.setRow w2.heap.size (bytes ib)).setRow (w2.heap.size + 1) (bytes ob)) := (HD2.out.trans (HY.out.2.2.2.mono hzd)).trans (hK.toBelow (by intro k hk; simp at hk; omega) (by omega))
  generalize ((Y.setRow w2.heap.size (bytes ib)).setRow (w2.heap.size + 1) (bytes ob)) = Z at *
  have HR1 := Lib.hid hr1
  have HR2 := Lib.hid hr2
  have HBZ := Lib.hid (HB0.out.trans (hbz.mono HB0.out.size))
  have HOZ := Lib.hid ((hbz.block w.heap.size (by omega)).trans HO0.out)
  have HSZ := Lib.hid (HS1.out.below (HB0.out.trans (hbz.mono HB0.out.size)) (Nat.le_refl _))
  have hAB : w.heap.size < w2.heap.size := by omega
  clear hK hr1 hr2 hYz hbz HZ1 HY HD1 HD2 HB1 HB2 HBI HBO HO0 HX0 HB0 hz0 hzd hz2
  obtain ⟨A, hA⟩ : ∃ A, w2.heap.size = A := ⟨_, rfl⟩
  rw [hA] at HR1 HR2 hAB ⊢
  clear hA
  have HN1 := Lib.hid (show text.length ≤ 40000000 from HLT.out)
  go_upto_region 3 with (first
    | (go_at_call 63; refine (concat2 _ Z.heap.size _ _ ib text _ _ (heap_alloc_new Z _) ((sl_arr ib HR1.out HL.out.1.symm (by rw [HL.out.1]; omega)).alloc _) (HSZ.out.alloc _) (by rw [HL.out.1]; have := HN1.out; omega)).mono ?_; rintro e w3 ⟨v3, rfl, ho, hb⟩; have HO3 := Lib.hid ho.sl; have HB3 := Lib.hid (((Below.refl _ Z).alloc (Nat.le_refl _) _).trans (hb.mono (by simp))); clear ho hb)
    | (go_at_call 27; refine (HC1.out _ _ HO3.out (HBZ.out.trans (HB3.out.mono HBZ.out.size))).mono ?_; rintro e w4 ⟨rfl, hb⟩; have HB4 := Lib.hid (HB3.out.trans (hb.mono HB3.out.size)); clear hb)
    | (refine wpList_store_row rfl 32 (.tmp 7) (.tmp 16) rfl _ _ rfl rfl _ _ (heap_alloc_new _ _) (HIH.out _ HL.out.2.2.1) (by rw [bytes_size, HL.out.2.2.1]; rfl) (bytes_one _) ?_; rw [World.setRow_alloc_new]))
  obtain ⟨X, hX, hBX, hXs, hX0⟩ := alloc1 w4 (.cells (bytes ih) 32)
  rw [hX]
  have hz4 := HB4.out.size
  have hbx : Below Z.heap.size Z X := HB4.out.trans (hBX.mono hz4)
  have hzl := (Array.getElem?_eq_some_iff.1 HR2.out).1
  have hzo := (Array.getElem?_eq_some_iff.1 HOZ.out).1
  have HR2X := Lib.hid ((hbx.block _ hzl).trans HR2.out)
  have HOX := Lib.hid ((hbx.block _ hzo).trans HOZ.out)
  have HX0 := Lib.hid hX0
  have HBX := Lib.hid (HBZ.out.trans (hbx.mono HBZ.out.size))
  have hlt4 : w.heap.size < w4.heap.size := by omega
  have hxo : w.heap.size < X.heap.size := by omega
  have HXO := Lib.hid hxo
  clear hX hBX hXs hX0 hz4 hbx hzl hzo hxo HR1 HR2 HOZ HBZ HSZ HC1 HB3 HB4 HO3
  obtain ⟨C, hC⟩ : ∃ C, w4.heap.size = C := ⟨_, rfl⟩
  rw [hC] at HX0 hlt4 ⊢
  clear hC
  -- REG T BEGIN
  refine wp_region_held_drew (S := fun _ => True) (by kernel_rfl) (trivial) (fun hHeld => ?_)
  refine wpAnyH_take (i := 0) (v := ?v1) rfl (by kernel_rfl) (by kernel_rfl) (by kernel_rfl) (fun _ _ _ h => h) (Or.inl ⟨by rfl, ?y1⟩) (by assumption) ?r1
  case y1 =>
    intro w' hSw
    go_split_ands
    go_simp
    try with_reducible rfl
  try simp only [List.getElem_toArray, List.getElem_cons_zero, List.getElem_cons_succ, Act.put, List.setIfInBounds_toArray, List.set_cons_zero, List.set_cons_succ]
  refine wpAnyH_take (i := 1) (v := ?v2) rfl (by kernel_rfl) (by kernel_rfl) (by kernel_rfl) (fun _ _ _ h => h) (Or.inl ⟨by rfl, ?y2⟩) (by assumption) ?r2
  case y2 =>
    intro w' hSw
    go_split_ands
    go_simp
    try with_reducible rfl
  try simp only [List.getElem_toArray, List.getElem_cons_zero, List.getElem_cons_succ, Act.put, List.setIfInBounds_toArray, List.set_cons_zero, List.set_cons_succ]
  refine wpAnyH_ready (rs := [2]) (by kernel_rfl) (by simp) ?_
  refine AllReadyH.cons (i := 2) rfl (fun K hK => ?_) AllReadyH.nil
  go_simp
  refine hK.out _ _ (trivial) (fun hHeld' => ?_)
  clear hHeld hK K
  have hHeld := hHeld'
  clear hHeld'
  try simp only [List.getElem_toArray, List.getElem_cons_zero, List.getElem_cons_succ, Act.put, List.setIfInBounds_toArray, List.set_cons_zero, List.set_cons_succ]
  refine wpAnyH_ready (rs := [3]) (by kernel_rfl) (by simp) ?_
  refine AllReadyH.cons (i := 3) rfl (fun K hK => ?_) AllReadyH.nil
  go_simp
  go_at_call 63
  refine (concat2 _ X.heap.size _ _ ob ih _ _ (heap_alloc_new X.drew _) ((show SlB X.drew _ ob from sl_arr ob HR2X.out HL.out.2.1.symm (by rw [HL.out.2.1]; omega)).alloc _) ((show SlB X.drew _ ih from sl_arr ih HX0.out HL.out.2.2.1.symm (by rw [HL.out.2.2.1]; omega)).alloc _) (by rw [HL.out.2.1, HL.out.2.2.1]; omega)).mono ?_
  rintro e w6 ⟨v6, rfl, ho, hb⟩
  have HO6 := Lib.hid ho.sl
  have hb6 : Below X.heap.size X w6 := (((Below.refl _ X).drew).alloc (Nat.le_refl _) _).trans (hb.mono (by simp))
  have HB6 := Lib.hid hb6
  clear ho hb hb6
  refine hK.out _ _ (trivial) (fun hHeld' => ?_)
  clear hHeld hK K
  have hHeld := hHeld'
  clear hHeld'
  try simp only [List.getElem_toArray, List.getElem_cons_zero, List.getElem_cons_succ, Act.put, List.setIfInBounds_toArray, List.set_cons_zero, List.set_cons_succ]
  refine wpAnyH_ready (rs := [4]) (by kernel_rfl) (by simp) ?_
  refine AllReadyH.cons (i := 4) rfl (fun K hK => ?_) AllReadyH.nil
  go_simp
  go_at_call 27
  refine (HC2.out _ _ HO6.out (HBX.out.trans (HB6.out.mono HBX.out.size))).mono ?_
  rintro e w7 ⟨rfl, hb⟩
  have hb7 := HB6.out.trans (hb.mono HB6.out.size)
  have HO7 := Lib.hid ((hb7.block w.heap.size HXO.out).trans HOX.out)
  have HB7 := Lib.hid (HBX.out.trans (hb7.mono HBX.out.size))
  clear hb hb7
  refine hK.out _ _ (trivial) (fun hHeld' => ?_)
  clear hHeld hK K
  have hHeld := hHeld'
  clear hHeld'
  try simp only [List.getElem_toArray, List.getElem_cons_zero, List.getElem_cons_succ, Act.put, List.setIfInBounds_toArray, List.set_cons_zero, List.set_cons_succ]
  refine wpAnyH_ready (rs := [5]) (by kernel_rfl) (by simp) ?_
  refine AllReadyH.cons (i := 5) rfl (fun K hK => ?_) AllReadyH.nil
  refine any_of_list (by rfl) (fun Q' hQ' => ?_)
  try simp only [List.getElem_toArray, List.getElem_cons_zero, List.getElem_cons_succ]
  refine wpList_store_row rfl 32 (.tmp 4) (.tmp 21) rfl w.heap.size _ rfl rfl _ _ HO7.out (HIH.out _ HL.out.2.2.2) (by rw [bytes_size, bytes_size, HL.out.2.2.2]; rfl) (bytes_one _) ?_
  refine hQ' _ _ (hK.out _ _ (trivial) (fun hHeld' => ?_))
  clear hHeld hK K hQ' Q'
  have hHeld := hHeld'
  clear hHeld'
  try simp only [List.getElem_toArray, List.getElem_cons_zero, List.getElem_cons_succ, Act.put, List.setIfInBounds_toArray, List.set_cons_zero, List.set_cons_succ]
  refine wpAnyH_done (by kernel_rfl) ?_ _
  -- REG T END
  go_wp2
  exact bodyPost_ret (results_cell_row Tryd.results41 _ _ w.heap.size _ _ _ _ rfl (setRow_heap _ _ _ _ _ _ HO7.out) Tryd.underlying32 rfl (HIH.out _ HL.out.2.2.2)) rfl ⟨rfl, HB7.out.trans (((Kept.refl [w.heap.size] w7).setRow (by simp) _).toBelow (B := w.heap.size) (by simp) HB7.out.size)⟩
end Go.Proofs.YtnoilogepkelaaaDoor
