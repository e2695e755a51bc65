/-
  The document's sha: mix.
-/
import Derived.Test.YtnoilogepkelaaaDoorRsE
import Derived.Deep.DeepCutAuto
import Derived.StillTailTactics
namespace Go.Proofs.YtnoilogepkelaaaDoor
set_option linter.unusedVariables false
set_option linter.unusedSimpArgs false
open Go Go.RowKit
attribute [local go_sem] u32_add u32_sub u32_xor u32_or u32_and' u32_shl u32_shr

/-- What mix holds between its rounds. -/
structure RmI (w : World) (V : Nat) (ws vs : List (BitVec 32)) (L A : Value) (sc : List (BitVec 32)) (wr : World) : Prop where
  lt : w.heap.size + 1 < V ∧ V < wr.heap.size
  w_ : wr.heap[w.heap.size]? = some (.cells (words ws) 26 (0, 0))
  out : wr.heap[w.heap.size + 1]? = some (.cells (words (List.replicate 8 0)) 26 (0, 0))
  v : wr.heap[V]? = some (.cells (words vs) 26 (0, 0))
  sl : SlW wr L sc
  ad : SlW wr A Sha.adds
  apart : (∀ k, L.ownBlock = some k → k ≠ V) ∧ (∀ k, A.ownBlock = some k → k ≠ V)
  below : Below w.heap.size w wr
theorem SlW.keptR {w w' : World} {v : Value} {xs : List (BitVec 32)} {V : Nat} (h : SlW w v xs) (hk : Kept [V] w w') (hl : ∀ k, v.ownBlock = some k → k ≠ V) : SlW w' v xs := by
  rcases h with h | ⟨b, off, cap, rfl, h1, h2, h3, h4⟩
  · exact .inl h
  · refine .inr ⟨b, off, cap, rfl, h1, h2, Nat.lt_of_lt_of_le h3 hk.size, fun j hj => ?_⟩
    rw [hk.cell b (off + j) h3 (by simp; exact hl b rfl)]
    exact h4 j hj
theorem RmI.drewN {w : World} {V : Nat} {ws vs : List (BitVec 32)} {L A : Value} {sc : List (BitVec 32)} {wr : World} (h : RmI w V ws vs L A sc wr) (n : Nat) : RmI w V ws vs L A sc (wr.drewN n) :=
  ⟨h.lt, h.w_, h.out, h.v, h.sl, h.ad, h.apart, Below.drewN h.below n⟩
theorem RmI.drew {w : World} {V : Nat} {ws vs : List (BitVec 32)} {L A : Value} {sc : List (BitVec 32)} {wr : World} (h : RmI w V ws vs L A sc wr) : RmI w V ws vs L A sc wr.drew :=
  ⟨h.lt, h.w_, h.out, h.v, h.sl, h.ad, h.apart, h.below.drew⟩
theorem RmI.kept {w : World} {V : Nat} {ws vs vs' : List (BitVec 32)} {L A : Value} {sc : List (BitVec 32)} {wr w' : World} (h : RmI w V ws vs L A sc wr) (hk : Kept [V] wr w') (hv : w'.heap[V]? = some (.cells (words vs') 26 (0, 0))) : RmI w V ws vs' L A sc w' := by
  have hl := h.lt
  have hb := h.below.size
  exact ⟨⟨h.lt.1, by have := hk.size; omega⟩, (hk.block _ (by omega) (by simp; omega)).trans h.w_, (hk.block _ (by omega) (by simp; omega)).trans h.out, hv, h.sl.keptR hk h.apart.1, h.ad.keptR hk h.apart.2, h.apart, h.below.trans (hk.toBelow (by simp; omega) hb)⟩
theorem RmI.set {w : World} {V : Nat} {ws vs : List (BitVec 32)} {L A : Value} {sc : List (BitVec 32)} {wr : World} (h : RmI w V ws vs L A sc wr) (p : Nat) (x : BitVec 32) : RmI w V ws (vs.set p x) L A sc (wr.setCell ⟨V, p, none⟩ (.int .u32 (wv x))) := by
  refine h.kept ((Kept.refl [V] wr).setCell (by simp) _) ?_
  have h2 := heap_setCell_same wr V p _ _ (.int .u32 (wv x)) h.v
  rwa [words_set] at h2
theorem RmI.row {w : World} {V : Nat} {ws vs vs' : List (BitVec 32)} {L A : Value} {sc : List (BitVec 32)} {wr : World} (h : RmI w V ws vs L A sc wr) : RmI w V ws vs' L A sc (wr.setRow V (words vs')) :=
  h.kept ((Kept.refl [V] wr).setRow (by simp) _) (setRow_heap _ _ _ _ _ _ h.v)

theorem Rsh.rnds_zero (s : Sha.S) (ws : List (BitVec 32)) : Sha.rnds s ws 0 = s := rfl
theorem Rsh.of_list (ws : List (BitVec 32)) (hw : ws.length = 8) : (Sha.S.of ws).list = ws := by
  match ws, hw with
  | [a, b, c, d, e, f, g, h], _ => rfl
theorem Rsh.mix_eq (ws : List (BitVec 32)) (b : List (BitVec 8)) (sc : List (BitVec 32)) (h : Sha.sched b 64 = sc) : Sha.mix ws b = Sha.plus ws (Sha.rnds (Sha.S.of ws) sc 64).list := by rw [← h, Sha.mix]
theorem u32_not (x : BitVec 32) : bits .xor .u32 (if IntKind.u32.signed = true then -1 else IntKind.u32.max) (wv x) = wv (~~~x) := by
  rw [show (if IntKind.u32.signed = true then -1 else IntKind.u32.max) = wv (BitVec.allOnes 32) from rfl, u32_xor, BitVec.allOnes_xor]
attribute [local go_sem] u32_not
theorem Rsh.rnd_eq (a b c d e f g h k w x y : BitVec 32) (hx : x = h + (Sha.rr e 6 ^^^ Sha.rr e 11 ^^^ Sha.rr e 25) + ((e &&& f) ^^^ (~~~e &&& g)) + k + w) (hy : y = (Sha.rr a 2 ^^^ Sha.rr a 13 ^^^ Sha.rr a 22) + ((a &&& b) ^^^ (a &&& c) ^^^ (b &&& c))) :
    (Sha.rnd ⟨a, b, c, d, e, f, g, h⟩ k w) = ⟨x + y, a, b, c, d + x, e, f, g⟩ := by
  subst hx hy
  rw [← Sha.choice, ← Sha.most]
  rfl
theorem Sha.plus_comm (x y : List (BitVec 32)) : Sha.plus x y = Sha.plus y x := by
  unfold Sha.plus
  rw [List.zipWith_comm]
  congr 1
  funext a b
  exact BitVec.add_comm _ _

set_option maxRecDepth 100000 in
set_option maxHeartbeats 4000000 in
theorem rmix_any (ws : List (BitVec 32)) (b : List (BitVec 8)) (hw : ws.length = 8) (hb : b.length = 64) (v va : Value) (w : World) (hs : SlB w v b) (ha : SlW w va Sha.adds) :
    Calls Tryd.prog 67 #[.agg (words ws), v, va] w fun e w' => e = .returned (.agg (words (Sha.mix ws b))) ∧ Below w.heap.size w w' := by
  have HSC := Lib.hid (fun W (hB : Below w.heap.size w W) => schedule_any b hb v W (hs.below hB (Nat.le_refl _)))
  have hsl := Sha.sched_length b 64
  obtain ⟨b2, o2, k2, rfl, hk2, hb2⟩ := ha.open_ 64 rfl (by omega)
  have HA := Lib.hid ha
  have HIW := Lib.hid (fun (xs : List (BitVec 32)) (h : xs.length = 8) => (show (Tryd.prog.info? 26).map (·.size) = some (words xs).size by rw [words_size, h]; kernel_rfl))
  have HW := Lib.hid hw
  have HR := Lib.hid (fun n => Sha.rnds_succ (Sha.S.of ws) (Sha.sched b 64) n)
  have HMX := Lib.hid (Rsh.mix_eq ws b _ rfl)
  have H0 := Lib.hid (show (Sha.rnds (Sha.S.of ws) (Sha.sched b 64) 0).list = ws by rw [Rsh.rnds_zero, Rsh.of_list ws hw])
  have HML := Lib.hid (Sha.mix_length ws b hw)
  obtain ⟨sc, hsc⟩ : ∃ sc, Sha.sched b 64 = sc := ⟨_, rfl⟩
  rw [hsc] at HSC HR HMX H0 hsl
  have HSL := Lib.hid hsl
  obtain ⟨S0, hS0⟩ : ∃ S0, Sha.S.of ws = S0 := ⟨_, rfl⟩
  rw [hS0] at HR HMX H0
  obtain ⟨wb, hwb⟩ : ∃ wb, words ws = wb := ⟨_, rfl⟩
  rw [hwb]
  have HWB := Lib.hid hwb
  clear hs ha hw hsl hsc hS0 hwb
  go_enter Tryd.func67, Tryd.ntmps67
  go_upto_region 1 with fail
  obtain ⟨X, hX, hBX, hXs, hX0, hX1⟩ := alloc2 w (.cells wb 26) (.cells (words (List.replicate 8 0)) 26)
  rw [show (w.alloc (.cells wb 26)).alloc (.cells #[.int .u32 0, .int .u32 0, .int .u32 0, .int .u32 0, .int .u32 0, .int .u32 0, .int .u32 0, .int .u32 0] 26) = X from hX]
  have HX := Lib.hid (And.intro hBX (And.intro hXs (And.intro hX0 hX1)))
  clear hX hBX hXs hX0 hX1
  go_upto_region 2 with (go_at_call 92; refine (HSC.out _ HX.out.1).mono ?_; rintro e w1 ⟨v1, rfl, ho, hb⟩; have HO1 := Lib.hid ho; have HB1 := Lib.hid hb; clear ho hb)
  obtain ⟨g, cap, rfl, hgb, hgl, hgc, hsl⟩ := HO1.out.form 64 HSL.out (by omega)
  have hxs := HX.out.2.1
  have hs1 := HB1.out.size
  have r0 := (HB1.out.block w.heap.size (by omega)).trans HX.out.2.2.1
  have r1 := (HB1.out.block (w.heap.size + 1) (by omega)).trans HX.out.2.2.2
  have R0 := Lib.hid r0
  have HI8 := Lib.hid (show (Tryd.prog.info? 26).map (·.size) = some wb.size by rw [← HWB.out]; exact HIW.out _ HW.out)
  have HW8 := Lib.hid (show wb.size = 8 by rw [← HWB.out, words_size]; exact HW.out)
  have HW1 := Lib.hid (show wb.all (·.oneCell') = true by rw [← HWB.out]; exact words_one _)
  go_upto_region 3 with (first
    | (refine wpList_load_row rfl 26 (.tmp 3) rfl w.heap.size rfl _ _ _ _ R0.out Tryd.underlying26 rfl HI8.out ?_)
    | (refine wpList_store_row rfl 26 (.tmp 8) (.tmp 23) rfl _ _ rfl rfl _ _ (heap_alloc_new _ _) HI8.out (by rw [HW8.out]; rfl) HW1.out ?_; rw [World.setRow_alloc_new]))
  obtain ⟨Y, hY, hBY, hYs, hY0⟩ := alloc1 w1 (.cells wb 26)
  rw [hY]
  have hbw : Below w.heap.size w Y := (HX.out.1.trans (HB1.out.mono (by omega))).trans (hBY.mono (by omega))
  have hI : RmI w w1.heap.size ws (Sha.rnds S0 sc 0).list (.slice (some ⟨g, 0, none⟩) 64 cap) (.slice (some ⟨b2, o2, none⟩) 64 k2) sc Y := by
    rw [H0.out]
    refine ⟨⟨by omega, by omega⟩, ?_, (hBY.block _ (by omega)).trans r1, ?_, hsl.below hBY (Nat.le_refl _), HA.out.below hbw (Nat.le_refl _), ⟨fun k hk => ?_, fun k hk => ?_⟩, hbw⟩
    · rw [HWB.out]; exact (hBY.block _ (by omega)).trans r0
    · rw [HWB.out]; exact hY0
    · simp [Value.ownBlock] at hk; omega
    · simp [Value.ownBlock] at hk; omega
  have HI := Lib.hid hI
  clear hI hbw hY hBY hYs hY0 r0 r1 hsl HX HB1 HO1 hgl hgb hs1 hxs R0 HI8 HW8 HW1
  generalize w1.heap.size = V at *
  go_wp2
  go_loopw [9] (fun s9 wr => ∃ (i : Nat) (S : Sha.S), i ≤ 64 ∧ s9 = .int .i64 i ∧ Hid (Sha.rnds S0 sc i = S) ∧ Hid (RmI w V ws S.list (.slice (some ⟨g, 0, none⟩) 64 cap) (.slice (some ⟨b2, o2, none⟩) 64 k2) sc wr)) (fun s9 _ => 64 - (intOf s9).toNat)
  case atStart => exact ⟨0, _, by omega, rfl, rfl, HI⟩
  case round =>
    clear HI
    obtain ⟨i, ⟨a, b', c, d, e, f, g', h⟩, hi, rfl, HS, HI⟩ := hrel
    by_cases hlt : i < 64
    · have hc : ∀ p, p < 8 → wr.cell? ⟨V, p, none⟩ = some (.int .u32 (wv (Sha.S.list ⟨a, b', c, d, e, f, g', h⟩ |>.getD p 0))) := fun p hp => (cell_of_row wr V p _ _ _ HI.out.v).trans (words_get? _ p hp)
      have c0 : wr.cell? ⟨V, 0, none⟩ = some (.int .u32 (wv a)) := hc 0 (by omega)
      have c1 : wr.cell? ⟨V, 1, none⟩ = some (.int .u32 (wv b')) := hc 1 (by omega)
      have c2 : wr.cell? ⟨V, 2, none⟩ = some (.int .u32 (wv c)) := hc 2 (by omega)
      have c3 : wr.cell? ⟨V, 3, none⟩ = some (.int .u32 (wv d)) := hc 3 (by omega)
      have c4 : wr.cell? ⟨V, 4, none⟩ = some (.int .u32 (wv e)) := hc 4 (by omega)
      have c5 : wr.cell? ⟨V, 5, none⟩ = some (.int .u32 (wv f)) := hc 5 (by omega)
      have c6 : wr.cell? ⟨V, 6, none⟩ = some (.int .u32 (wv g')) := hc 6 (by omega)
      have c7 : wr.cell? ⟨V, 7, none⟩ = some (.int .u32 (wv h)) := hc 7 (by omega)
      clear hc
      go_upto_region 6 with fail
      go_cut [10, 11, 12, 13, 14, 15, 16, 17] (fun s10 s11 s12 s13 s14 s15 s16 s17 wx => s10 = .int .u32 (wv a) ∧ s11 = .int .u32 (wv b') ∧ s12 = .int .u32 (wv c) ∧ s13 = .int .u32 (wv d) ∧ s14 = .int .u32 (wv e) ∧ s15 = .int .u32 (wv f) ∧ s16 = .int .u32 (wv g') ∧ s17 = .int .u32 (wv h) ∧ ∃ m, wx = wr.drewN m)
      case first =>
        go_quiet (fail)
        go_wp2_with fail
        go_meet
        case rel => exact ⟨rfl, rfl, rfl, rfl, rfl, rfl, rfl, rfl, _, rfl⟩
      case rest =>
        obtain ⟨rfl, rfl, rfl, rfl, rfl, rfl, rfl, rfl, m, rfl⟩ := hcut
        have hI2 := HI.out.drewN m
        clear HI c0 c1 c2 c3 c4 c5 c6 c7
        generalize wr.drewN m = W at *
        have k0 := hI2.ad.cell i (by show i < 64; exact hlt)
        have l0 := hI2.sl.cell i (by rw [HSL.out]; exact hlt)
        unfold wordV at k0 l0
        rw [Nat.zero_add] at l0
        have hr := HR.out i
        rw [HS.out] at hr
        generalize Sha.adds.getD i 0 = kk at k0 hr
        generalize sc.getD i 0 = ww at l0 hr
        have hi64 : (i : Int) < 64 := by omega
        have HI2 := Lib.hid hI2
        have HRR := Lib.hid hr
        clear hI2 hr
        have HE := Lib.hid (fun W => And.intro (show Calls Tryd.prog 93 #[.int .u32 (wv e), .int .u64 6] W fun e' w' => e' = .returned (.int .u32 (wv (Sha.rr e 6))) ∧ w' = W from (rr_any e 6 (by omega) (by omega) W).mono fun _ _ h => ⟨h.1, h.2.symm⟩)
          (And.intro (show Calls Tryd.prog 93 #[.int .u32 (wv e), .int .u64 11] W fun e' w' => e' = .returned (.int .u32 (wv (Sha.rr e 11))) ∧ w' = W from (rr_any e 11 (by omega) (by omega) W).mono fun _ _ h => ⟨h.1, h.2.symm⟩)
          (show Calls Tryd.prog 93 #[.int .u32 (wv e), .int .u64 25] W fun e' w' => e' = .returned (.int .u32 (wv (Sha.rr e 25))) ∧ w' = W from (rr_any e 25 (by omega) (by omega) W).mono fun _ _ h => ⟨h.1, h.2.symm⟩)))
        have HAA := Lib.hid (fun W => And.intro (show Calls Tryd.prog 93 #[.int .u32 (wv a), .int .u64 2] W fun e' w' => e' = .returned (.int .u32 (wv (Sha.rr a 2))) ∧ W = w' from rr_any a 2 (by omega) (by omega) W)
          (And.intro (show Calls Tryd.prog 93 #[.int .u32 (wv a), .int .u64 13] W fun e' w' => e' = .returned (.int .u32 (wv (Sha.rr a 13))) ∧ W = w' from rr_any a 13 (by omega) (by omega) W)
          (show Calls Tryd.prog 93 #[.int .u32 (wv a), .int .u64 22] W fun e' w' => e' = .returned (.int .u32 (wv (Sha.rr a 22))) ∧ W = w' from rr_any a 22 (by omega) (by omega) W)))
        go_upto_region 7 with fail
        go_quiet ((first
          | (go_at_call 93; with_reducible exact Calls.quiet_of_same (HE.out _).1) | (go_at_call 93; with_reducible exact Calls.quiet_of_same (HE.out _).2.1) | (go_at_call 93; with_reducible exact Calls.quiet_of_same (HE.out _).2.2)))
        obtain ⟨xx, hxx⟩ : ∃ xx, h + (Sha.rr e 6 ^^^ Sha.rr e 11 ^^^ Sha.rr e 25) + ((e &&& f) ^^^ (~~~e &&& g')) + kk + ww = xx := ⟨_, rfl⟩
        rw [hxx]
        obtain ⟨yy, hyy⟩ : ∃ yy, (Sha.rr a 2 ^^^ Sha.rr a 13 ^^^ Sha.rr a 22) + ((a &&& b') ^^^ (a &&& c) ^^^ (b' &&& c)) = yy := ⟨_, rfl⟩
        have HN := Lib.hid (HRR.out.trans (Rsh.rnd_eq a b' c d e f g' h kk ww xx yy hxx.symm hyy.symm))
        have HYY := Lib.hid hyy
        have HI3 := Lib.hid (HI2.out.drewN nq)
        clear hxx hyy HI2
        generalize W.drewN nq = W2 at *
        go_upto_region 9 with (first
          | (go_at_call 93; (with_reducible refine Calls.mono (HAA.out _).1 ?_); rintro e' w' ⟨rfl, rfl⟩)
          | (go_at_call 93; (with_reducible refine Calls.mono (HAA.out _).2.1 ?_); rintro e' w' ⟨rfl, rfl⟩)
          | (go_at_call 93; (with_reducible refine Calls.mono (HAA.out _).2.2 ?_); rintro e' w' ⟨rfl, rfl⟩))
        rw [HYY.out]
        go_wp2_with (refine wpList_store_row rfl 26 (.tmp 8) (.tmp 105) rfl V (words [xx + yy, a, b', c, d + xx, e, f, g']) rfl rfl _ _ HI3.out.v (HIW.out _ rfl) (by rfl) (words_one _) ?_)
        exact ⟨⟨i + 1, ⟨xx + yy, a, b', c, d + xx, e, f, g'⟩, by omega, by go_num, HN, Lib.hid HI3.out.row⟩, by simp [intOf]; omega⟩
    · obtain rfl : i = 64 := by omega
      rw [show ((64 : Nat) : Int) = 64 from rfl]
      rw [← HS.out] at HI
      have HRL := Lib.hid (show (Sha.rnds S0 sc 64).list.length = 8 from rfl)
      rw [Sha.plus_comm] at HMX
      have HPZ := Lib.hid (Sha.plusN_zero (Sha.rnds S0 sc 64).list ws)
      have HPS := Lib.hid (fun j (h : j < 8) => Sha.plusN_succ (Sha.rnds S0 sc 64).list ws j h)
      have HPA := Lib.hid (Sha.plusN_all (Sha.rnds S0 sc 64).list ws (by rw [HW.out]; rfl))
      have HPG := Lib.hid (fun j (h : j < 8) => Sha.plusN_getD (Sha.rnds S0 sc 64).list ws j j h)
      have HPL := Lib.hid (fun j => Sha.plusN_length (Sha.rnds S0 sc 64).list ws j)
      obtain ⟨RL, hRL⟩ : ∃ RL, (Sha.rnds S0 sc 64).list = RL := ⟨_, rfl⟩
      rw [hRL] at HI HRL HMX HPZ HPS HPA HPG HPL
      clear HS hRL HR H0 HSC
      rw [← HPZ.out] at HI
      go_wp2
      go_loopw [20] (fun s20 wq => ∃ j : Nat, j ≤ 8 ∧ s20 = .int .i64 j ∧ Hid (RmI w V ws (Sha.plusN RL ws j) (.slice (some ⟨g, 0, none⟩) 64 cap) (.slice (some ⟨b2, o2, none⟩) 64 k2) sc wq)) (fun s20 _ => 8 - (intOf s20).toNat)
      case atStart => exact ⟨0, by omega, rfl, HI⟩
      case round =>
        clear HI
        obtain ⟨j, hj, rfl, HI⟩ := hrel
        by_cases hlt8 : j < 8
        · have c0 := (cell_of_row wr V j _ _ _ HI.out.v).trans (words_get? _ j (by rw [HPL.out, HRL.out]; exact hlt8))
          rw [HPG.out j hlt8, if_neg (by omega)] at c0
          have c1 := (cell_of_row wr w.heap.size j _ _ _ HI.out.w_).trans (words_get? _ j (by rw [HW.out]; exact hlt8))
          have f0 := frozen_of_row wr V j _ _ HI.out.v
          have hn := HI.out.set j (RL.getD j 0 + ws.getD j 0)
          rw [← HPS.out j hlt8] at hn
          generalize RL.getD j 0 = x at c0 hn
          generalize ws.getD j 0 = y at c1 hn
          have HN := Lib.hid hn
          have hj8 : (j : Int) < 8 := by omega
          have hVw : ¬ V = w.heap.size := by have := HI.out.lt.1; omega
          clear hn
          go_upto_region 13 with fail
          go_still_tail 9, (by kernel_rfl)
          go_wp2
          exact ⟨⟨j + 1, by omega, by go_num, HN.out.drew⟩, by simp [intOf]; omega⟩
        · obtain rfl : j = 8 := by omega
          rw [HRL.out] at HPA
          rw [HPA.out, ← HMX.out] at HI
          have hlt' := HI.out.lt
          have HIV := Lib.hid (HIW.out _ HML.out)
          go_wp2_with (first
            | (refine wpList_load_row rfl 26 (.tmp 8) rfl V rfl _ _ _ _ HI.out.v Tryd.underlying26 rfl HIV.out ?_)
            | (refine wpList_store_row rfl 26 (.tmp 6) (.tmp 119) rfl (w.heap.size + 1) _ rfl rfl _ _ HI.out.out HIV.out (by rw [words_size, words_size, HML.out]; rfl) (words_one _) ?_))
          exact bodyPost_ret (results_cell_row Tryd.results67 _ _ (w.heap.size + 1) _ _ _ _ rfl (setRow_heap _ _ _ _ _ _ HI.out.out) Tryd.underlying26 rfl HIV.out) rfl ⟨rfl, HI.out.below.trans (((Kept.refl [w.heap.size + 1] wr).setRow (by simp) _).toBelow (B := w.heap.size) (by simp) HI.out.below.size)⟩
end Go.Proofs.YtnoilogepkelaaaDoor
