/-
  The law DiskTorn: its walk.
-/
import Derived.Test.YtdnjjemdnlegdaaDl2
namespace Go.Proofs.Ytdnjjemdnlegdaa
set_option linter.unusedVariables false
set_option linter.unusedSimpArgs false
open Go Go.RowKit
attribute [local go_sem] u8_shr u8_one

/-- An act of layer 8's as cells. -/
def actC (a0 : BitVec 8) (at_ n : Int) (v : Value) (wh : Bool) (mask : List (BitVec 8)) : List Value := [.int .u8 (bv a0), .int .i64 at_, .int .i64 n, v, .bool wh] ++ bcells mask
theorem SlB.minA {w : World} {a : Option Addr} {len cap : Nat} {xs : List (BitVec 8)} (h : SlB w (.slice a len cap) xs) (m : Nat) (hl : len = xs.length) : (xs.length ≤ m → SlB w (.slice a xs.length cap) (xs.take m)) ∧ (m < xs.length → SlB w (.slice a m cap) (xs.take m)) := by
  subst hl
  exact ⟨fun hm => by rw [List.take_of_length_le hm]; exact h, fun hm => h.takeA m (by omega)⟩
theorem data_take (wh : Bool) (xs : List (BitVec 8)) : Dk.data wh (xs.take 1024) = Dk.data wh xs := by
  unfold Dk.data
  rw [List.take_take]
  simp

/-- What stays: the act's block, the mask's block, a disk of the call's own. -/
structure TornS (w : World) (cs : Array Value) (mask : List (BitVec 8)) (p g : Nat) (d : Dk.D) (wr : World) : Prop where
  act : wr.heap[w.heap.size]? = some (.cells cs 25 (0, 0))
  mask : wr.heap[w.heap.size + 1]? = some (.cells (bytes mask) 23 (0, 0))
  disk : DiskAt wr p g d
  bel : Below w.heap.size w wr
  ltp : w.heap.size + 2 ≤ p
  ltg : w.heap.size + 2 ≤ g
theorem TornS.size {w : World} {cs : Array Value} {mask : List (BitVec 8)} {p g : Nat} {d : Dk.D} {wr : World} (h : TornS w cs mask p g d wr) : w.heap.size + 2 ≤ wr.heap.size := by
  have := h.ltp; have := h.disk.ltp; omega
theorem TornS.below {w : World} {cs : Array Value} {mask : List (BitVec 8)} {p g : Nat} {d : Dk.D} {wr w' : World} (h : TornS w cs mask p g d wr) (hb : Below wr.heap.size wr w') : TornS w cs mask p g d w' :=
  ⟨(hb.block _ (by have := h.size; omega)).trans h.act, (hb.block _ (by have := h.size; omega)).trans h.mask, h.disk.below hb (Nat.le_refl _), h.bel.trans (hb.mono (by have := h.size; omega)), h.ltp, h.ltg⟩
theorem TornS.drewN {w : World} {cs : Array Value} {mask : List (BitVec 8)} {p g : Nat} {d : Dk.D} {wr : World} (h : TornS w cs mask p g d wr) (n : Nat) : TornS w cs mask p g d (wr.drewN n) := ⟨h.act, h.mask, h.disk.drewN n, Below.drewN h.bel n, h.ltp, h.ltg⟩
theorem OwnB.apart {E base : Nat} {w : World} {v : Value} {xs : List (BitVec 8)} (h : OwnB E base w v xs) {l : List Nat} (hl : ∀ k, k ∈ l → k < base) : Apart v xs l := fun _ k hk hm => by
  have h1 := hl k hm
  have h2 := (World.ownsRow.lt h k hk).1
  omega
theorem TornS.step {w : World} {cs : Array Value} {mask : List (BitVec 8)} {p g : Nat} {d d' : Dk.D} {wr w' : World} (h : TornS w cs mask p g d wr) (hd : DiskAt w' p g d') (hk : Kept [p, g] wr w') : TornS w cs mask p g d' w' :=
  have h1 := h.ltp
  have h2 := h.ltg
  ⟨(hk.block _ (by have := h.size; omega) (by simp; omega)).trans h.act, (hk.block _ (by have := h.size; omega) (by simp; omega)).trans h.mask, hd, h.bel.trans (hk.toBelow (by simp; omega) (by have := h.size; omega)), h.ltp, h.ltg⟩

set_option maxRecDepth 100000 in
set_option maxHeartbeats 4000000 in
theorem law_diskTorn (v0 : Value) (xs0 : List (BitVec 8)) (v1 : Value) (xs1 : List (BitVec 8)) (a0 : BitVec 8) (at_ n : Int) (v2 : Value) (wh : Bool) (mask : List (BitVec 8)) (w : World) (h0 : SlB w v0 xs0) (h1 : SlB w v1 xs1) (hm : mask.length = 16)
    (ha0 : -9223372036854775808 ≤ at_) (ha1 : at_ ≤ 9223372036854775807) (hn0 : -9223372036854775808 ≤ n) (hn1 : n ≤ 9223372036854775807) :
    Calls Try.prog 3 #[v0, v1, .agg (actC a0 at_ n v2 wh mask).toArray] w fun e w' => e = .returned (.bool true) ∧ Below w.heap.size w w' := by
  obtain ⟨A0, cap0, rfl⟩ := h0.len
  obtain ⟨A1, cap1, rfl⟩ := h1.len
  have hbl : (bcells mask).length = 16 := by rw [bcells_length, hm]
  obtain ⟨W, hW, hBW, hWs, hWn⟩ := alloc1 w (Obj.cells (actC a0 at_ n v2 wh mask).toArray 25)
  have hra : W.rangeAt w.heap.size 5 (bcells mask) := fun j v hj => by
    rw [cell_of_row W w.heap.size (5 + j) _ _ _ hWn, List.getElem?_toArray, actC, List.getElem?_append_right (by simp), show 5 + j - [Value.int .u8 (bv a0), .int .i64 at_, .int .i64 n, v2, .bool wh].length = j by simp]
    exact hj
  have HRA := Lib.hid hra
  have HI := Lib.hid (show (Try.prog.info? 23).map (·.size) = some (bcells mask).length by rw [hbl]; kernel_rfl)
  have HI2 := Lib.hid (show (Try.prog.info? 23).map (·.size) = some (bytes mask).size by rw [bytes_size, hm]; kernel_rfl)
  have HBM := Lib.hid (show (bcells mask).toArray = bytes mask by rw [← bytes_toList])
  have HONE := Lib.hid (bytes_one mask)
  have HSZ := Lib.hid (show (bytes mask).size = 16 by rw [bytes_size, hm])
  have HH0 := Lib.hid h0
  have HH1 := Lib.hid h1
  have HWN := Lib.hid hWn
  have HBW := Lib.hid hBW
  have hb0 := h0.bounds.2
  have hb1 := h1.bounds.2
  clear hra h0 h1 hWn hBW hbl
  have HC1 := Lib.hid (show (actC a0 at_ n v2 wh mask).toArray[1]? = some (.int .i64 at_) from rfl)
  have HC2 := Lib.hid (show (actC a0 at_ n v2 wh mask).toArray[2]? = some (.int .i64 n) from rfl)
  generalize (actC a0 at_ n v2 wh mask).toArray = cs at *
  go_enter Try.func3, Try.ntmps3
  go_upto_region 1 with fail
  clear hW
  go_upto_region 2 with (first
    | (refine wpList_load_mid rfl 23 (.tmp 21) rfl w.heap.size 5 rfl (bcells mask) _ HRA.out Try.underlying23 rfl HI.out ?_; rw [HBM.out])
    | (refine wpList_store_row rfl 23 (.tmp 7) (.tmp 22) rfl _ _ rfl rfl _ _ (heapA_new _ _ _ (by omega)) HI2.out (by rw [HSZ.out]; rfl) HONE.out ?_; rw [setRow_at _ _ _ _ _ (by omega)]))
  obtain ⟨X, hX, hBX, hXs, hXn⟩ := alloc1 W (Obj.cells (bytes mask) 23)
  rw [hX]
  clear hX
  have HNEW := Lib.hid (dk_new 20 (by omega) (by omega) X)
  go_upto_region 3 with (go_at_call 14; refine HNEW.out.mono ?_; rintro e w1 ⟨p, g, rfl, hD1, hp1, hg1, hbn⟩)
  have hS : TornS w cs mask p g (Dk.fresh 20) w1 :=
    ⟨(hbn.block _ (by omega)).trans ((hBX.block _ (by omega)).trans HWN.out), (hbn.block _ (by omega)).trans (by rw [← hWs]; exact hXn), hD1, HBW.out.trans ((hBX.trans (hbn.mono (by omega))).mono (by omega)), by omega, by omega⟩
  have HS := Lib.hid hS
  clear HNEW hS hD1 hbn hBX hXn hXs HRA HBM HONE HSZ HWN HBW hWs hp1 hg1
  clear X W
  go_cut [10] (fun s10 wx => Hid (TornS w cs mask p g (Dk.fresh 20) wx) ∧ Hid (OwnB 5 w1.heap.size wx s10 (Dk.data true xs1)) ∧ w1.heap.size ≤ wx.heap.size)
  case first =>
    have hsl := HH1.out.below HS.out.bel (Nat.le_refl _)
    have hmin := hsl.minA 1024 rfl
    have HM := Lib.hid hmin
    clear hsl hmin
    generalize hx1 : xs1.length = n1 at *
    have HX1 := Lib.hid hx1
    clear hx1
    by_cases hl : n1 ≤ 1024
    all_goals
      first | have hd := HM.out.1 hl | have hd := HM.out.2 (by omega)
      go_wp2_with (go_at_call 15; refine Calls.mono (data_any _ _ (xs1.take 1024) true _ rfl rfl hd) ?_; rintro e w2 ⟨v', rfl, ho, hb⟩; rw [data_take] at ho)
      go_meet
      case rel => exact ⟨Lib.hid (HS.out.below hb), Lib.hid ho, hb.size⟩
  case rest =>
    obtain ⟨HS1, HO1, hz1⟩ := hcut
    have hpl := HS.out.disk.ltp
    have hgl := HS.out.disk.ltg
    clear HS
    go_upto_region 4 with fail
    go_cut [11] (fun s11 wy => Hid (TornS w cs mask p g (Dk.fresh 20) wy) ∧ Hid (OwnB 5 w1.heap.size wy u10 (Dk.data true xs1)) ∧ Hid (OwnB 5 w1.heap.size wy s11 (Dk.data true xs0)) ∧ w1.heap.size ≤ wy.heap.size)
    case first =>
      have hsl := HH0.out.below HS1.out.bel (Nat.le_refl _)
      have hmin := hsl.minA 1024 rfl
      have HM := Lib.hid hmin
      clear hsl hmin
      generalize hx1 : xs0.length = n1 at *
      have HX1 := Lib.hid hx1
      clear hx1
      by_cases hl : n1 ≤ 1024
      all_goals
        first | have hd := HM.out.1 hl | have hd := HM.out.2 (by omega)
        go_wp2_with (go_at_call 15; refine Calls.mono (data_any _ _ (xs0.take 1024) true _ rfl rfl hd) ?_; rintro e w2 ⟨v', rfl, ho, hb⟩; rw [data_take] at ho)
        go_meet
        case rel => exact ⟨Lib.hid (HS1.out.below hb), Lib.hid (HO1.out.below hb (Nat.le_refl _)), Lib.hid (ho.mono hz1), Nat.le_trans hz1 hb.size⟩
    case rest =>
      obtain ⟨HS2, HO2, HO3, hz2⟩ := hcut
      clear HS1 HO1
      obtain ⟨B, hB⟩ : ∃ B, B = Dk.data true xs1 := ⟨_, rfl⟩
      obtain ⟨A, hA⟩ : ∃ A, A = Dk.data true xs0 := ⟨_, rfl⟩
      have hBl : B.length ≤ 1024 ∧ B.length % 128 = 0 := by rw [hB]; exact ⟨Dk.data_length _ _, Dk.data_whole _⟩
      have hAl : A.length ≤ 1024 := by rw [hA]; exact Dk.data_length _ _
      rw [← hB] at HO2
      rw [← hA] at HO3
      obtain ⟨nb, hnb⟩ : ∃ nb, nb = B.length / 128 := ⟨_, rfl⟩
      have hBn : B.length = nb * 128 := by omega
      have hnb8 : nb ≤ 8 := by omega
      obtain ⟨d1, hput, hd1l, hd1o⟩ := Dk.put_fresh A hAl
      obtain ⟨aB, cB, hvB⟩ := HO2.out.sl.len
      rw [hBn] at hvB
      subst hvB
      have HBn := Lib.hid hBn
      obtain ⟨U, hU, hU0⟩ : ∃ U, IntKind.u64.wrap at_ = U ∧ 0 ≤ U := ⟨_, rfl, by rw [wrap_u64_mod]; omega⟩
      obtain ⟨V, hV, hV0⟩ : ∃ V, IntKind.u64.wrap n = V ∧ 0 ≤ V := ⟨_, rfl, by rw [wrap_u64_mod]; omega⟩
      obtain ⟨a, ha, haU⟩ : ∃ a : Nat, U % (21 - (nb : Int)) = a ∧ a + nb ≤ 20 := by
        have h1 := Int.emod_nonneg U (show (21 - (nb : Int)) ≠ 0 by omega)
        have h2 := Int.emod_lt_of_pos U (show 0 < (21 - (nb : Int)) by omega)
        exact ⟨(U % (21 - (nb : Int))).toNat, by omega, by omega⟩
      obtain ⟨wl, hwl, hwl20⟩ : ∃ wl : Nat, V % 20 = wl ∧ wl < 20 := ⟨(V % 20).toNat, by omega, by omega⟩
      have h21 : IntKind.u64.wrap (21 - (nb : Int)) = 21 - nb := by rw [wrap_u64_mod]; omega
      have HPUT := fun (W : World) (h : DiskAt W p g (Dk.fresh 20)) (hs : SlB W u11 A) => dk_put h 0 u11 A hs (by omega) (by omega) (by omega)
      rw [hput] at HPUT
      have HPUT := Lib.hid HPUT
      have HBY := Lib.hid (fun (W : World) (d : Dk.D) (h : DiskAt W p g d) => dk_bytes h)
      have HCUT := fun (W : World) (h : DiskAt W p g d1) => dk_cut h (wl : Int) mask hm (by omega)
      rw [Dk.cut_on d1 hd1o wl mask] at HCUT
      have HCUT := Lib.hid HCUT
      have HWR := fun (W : World) (h : DiskAt W p g { d1 with left := (wl : Int), mask := mask }) (v : Value) (hs : SlB W v B) (hap : Apart v B [g, p]) => dk_write h (a : Int) v B hs (by omega) hap (by omega) (by omega)
      obtain ⟨t1, t2, t3⟩ := Dk.torn_facts d1 hd1l hd1o mask B nb a wl hBn haU
      obtain ⟨R, hR⟩ : ∃ R, R = Dk.write { d1 with left := (wl : Int), mask := mask } (a : Int) B := ⟨_, rfl⟩
      rw [← hR] at HWR t1 t2 t3
      have HWR := Lib.hid HWR
      have T1 := Lib.hid t1
      have T2 := Lib.hid t2
      have T3 := Lib.hid t3
      have HD1 := Lib.hid hd1l
      have HR := Lib.hid hR
      clear hR t1 t2 t3 hput hd1o hd1l hAl hBl hnb hA hB hBn
      go_upto_region 7 with (go_at_call 16; refine (HPUT.out _ HS2.out.disk HO3.out.sl).mono ?_; rintro e w2 ⟨rfl, hD, hK⟩; have HS3 := Lib.hid (HS2.out.step hD hK); have HO4 := Lib.hid (OwnB.keptV2 HO2.out hK (by simp; omega)); have hz3 := hK.size; clear hD hK)
      have c1 := (cell_of_row w2 w.heap.size 1 _ _ _ HS3.out.act).trans HC1.out
      have c2 := (cell_of_row w2 w.heap.size 2 _ _ _ HS3.out.act).trans HC2.out
      go_upto_region 8 with fail
      go_quiet (fail)
      clear hU hV hU0 hV0 ha hwl h21 c1 c2
      go_upto_region 10 with (go_at_call 17; refine (HBY.out _ d1 (HS3.out.disk.drewN _)).mono ?_; rintro e w3 ⟨v3, rfl, hO, hb⟩; obtain ⟨gW, cW, rfl, hgW, _, _, _⟩ := hO.form 2560 HD1.out (by omega); have HS5 := Lib.hid ((HS3.out.drewN _).below hb); have HO5 := Lib.hid (HO4.out.below ((Below.drewN (Below.refl _ w2) _).trans hb) (Nat.le_refl _)); have hz4 := hb.size; have HW5 := Lib.hid (OwnB.mono (base' := w1.heap.size) hO (Nat.le_trans hz2 hz3)); clear hO hb)
      have hz5 : w1.heap.size ≤ w3.heap.size := Nat.le_trans (Nat.le_trans hz2 hz3) hz4
      clear HS3 HO4 HS2 HO2 HO3 hz4
      go_upto_region 12 with (first
        | (refine wpList_load_row rfl 23 (.tmp 7) rfl (w.heap.size + 1) rfl _ _ _ _ HS5.out.mask Try.underlying23 rfl HI2.out ?_)
        | (go_at_call 18; refine (HCUT.out _ HS5.out.disk).mono ?_; rintro e w4 ⟨rfl, hD, hK⟩; have HS6 := Lib.hid (HS5.out.step hD hK); have HO6 := Lib.hid (HO5.out.keptV2 hK (by simp; omega)); have HW6 := Lib.hid (HW5.out.keptV2 hK (by simp; omega)); have hz6 := hK.size; clear hD hK))
      clear HS5 HO5 HW5 HPUT HCUT
      go_upto_region 13 with (go_at_call 19; refine (HWR.out _ HS6.out.disk _ HO6.out.sl (HO6.out.apart (by simp; omega))).mono ?_; rintro e w5 ⟨rfl, hD, hK⟩; have HS7 := Lib.hid (HS6.out.step hD hK); have HO7 := Lib.hid (HO6.out.keptV2 hK (by simp; omega)); have HW7 := Lib.hid (HW6.out.keptV2 hK (by simp; omega)); have hz7 := hK.size; clear hD hK)
      have HRL := Lib.hid (show R.1.b.length = 2560 by rw [HR.out, (Dk.write_ok HS6.out.disk.ok (a : Int) B).2]; exact HD1.out)
      clear HS6 HO6 HW6 HWR HR
      go_upto_region 14 with (go_at_call 17; refine (HBY.out _ R.1 HS7.out.disk).mono ?_; rintro e w6 ⟨v6, rfl, hO, hb⟩; obtain ⟨gN, cN, rfl, hgN, _, _, _⟩ := hO.form 2560 HRL.out (by omega); have HS8 := Lib.hid (HS7.out.below hb); have HO8 := Lib.hid (HO7.out.below hb (Nat.le_refl _)); have HW8 := Lib.hid (HW7.out.below hb (Nat.le_refl _)); have HN8 := Lib.hid hO.sl; have hz8 := hb.size; clear hO hb)
      clear HS7 HO7 HW7 HBY
      have HOFF := fun (W : World) (h : DiskAt W p g R.1) => dk_off h
      rw [T2.out] at HOFF
      have HOFF := Lib.hid HOFF
      have T1 := T1.out
      go_cut [98] (fun s98 wx => s98 = .bool false ∧ wx = w6)
      case first =>
        by_cases hwn : wl < nb
        · rw [if_pos hwn] at T1
          have hd : decide (wl < nb) = true := by simpa using hwn
          have hd2 : decide (nb ≤ wl) = false := by simpa using hwn
          rw [hd] at HOFF
          have hq : (R.2 == 0) = false := by rw [T1]; rfl
          clear T1
          go_wp2_with (go_at_call 20; refine (HOFF.out _ HS8.out.disk).mono ?_; rintro e w' ⟨rfl, rfl⟩)
          go_meet
          case rel => exact ⟨rfl, rfl⟩
        · rw [if_neg hwn] at T1
          have hd : decide (wl < nb) = false := by simpa using hwn
          have hd2 : decide (nb ≤ wl) = true := by simp; omega
          rw [hd] at HOFF
          have hq : (R.2 == 0) = true := by rw [T1]; rfl
          clear T1
          go_wp2_with (go_at_call 20; refine (HOFF.out _ HS8.out.disk).mono ?_; rintro e w' ⟨rfl, rfl⟩)
          go_meet
          case rel => exact ⟨rfl, rfl⟩
      case rest =>
        obtain ⟨rfl, rfl⟩ := hcut
        clear T1
        go_wp2_with fail
        have HWK := Lib.hid works_any
        have hwz := HS8.out.bel.size
        go_loop [18] (fun i => ∃ k : Nat, k ≤ 2560 ∧ i = .int .i64 k) (fun i => 2560 - (intOf i).toNat)
        case atStart => exact ⟨0, by omega, rfl⟩
        case round =>
          obtain ⟨k, hk, rfl⟩ := hrel
          by_cases hlt : k < 2560
          · have cW1 := HW8.out.get_cell k (by rw [HD1.out]; exact hlt)
            have cN1 := HN8.out.cell k (by rw [HRL.out]; exact hlt)
            rw [Nat.zero_add] at cN1
            unfold byteV at cW1 cN1
            obtain ⟨D, hD⟩ : ∃ D, (k : Int) / 128 - (a : Int) = D := ⟨_, rfl⟩
            obtain ⟨q, hq, hql⟩ : ∃ q : Nat, (k : Int) % 128 / 8 = q ∧ q < 16 := ⟨((k : Int) % 128 / 8).toNat, by omega, by omega⟩
            obtain ⟨r, hr, hrl⟩ : ∃ r : Nat, (k : Int) % 8 = r ∧ r < 8 := ⟨((k : Int) % 8).toNat, by omega, by omega⟩
            have cM := (cell_of_row _ _ q _ _ _ HS8.out.mask).trans (bytes_get? mask q (by rw [hm]; exact hql))
            have HBIT := Lib.hid (show Dk.bit mask (k % 128) = (((mask.getD q 0) >>> r) &&& 1 == 1) by unfold Dk.bit; rw [show k % 128 / 8 = q by omega, show k % 128 % 8 = r by omega])
            have HDE := Lib.hid (show ((k / 128 : Nat) : Int) = D + a by omega)
            have HT := Lib.hid (T3.out k)
            have hDl : -20 ≤ D ∧ D ≤ 20 := by omega
            generalize mask.getD q 0 = mq at *
            generalize R.1.b.getD k 0 = zN at *
            generalize d1.b.getD k 0 = zW at *
            go_upto_region 21 with fail
            go_cut [142] (fun s142 wx => s142 = .bool (Dk.tornHit mask a nb wl k) ∧ wx = wc)
            case first =>
              have HTH := Lib.hid (show Dk.tornHit mask a nb wl k = (decide (0 ≤ D) && decide (D < nb) && (decide (D < wl) || (decide (D = wl) && Dk.bit mask (k % 128)))) by
                have e := HDE.out
                unfold Dk.tornHit
                rw [show decide (a ≤ k / 128) = decide (0 ≤ D) by simp; omega, show decide (k / 128 < a + nb) = decide (D < nb) by simp; omega, show decide (k / 128 < a + wl) = decide (D < wl) by simp; omega, show decide (k / 128 = a + wl) = decide (D = wl) by simp; omega])
              clear cW1 cN1 hD
              by_cases h1 : 0 ≤ D
              · by_cases h2 : D < nb
                · by_cases h3 : D < wl
                  · go_wp2_with fail
                    go_meet
                    case rel => exact ⟨by rw [HTH.out, decide_eq_true h1, decide_eq_true h2, decide_eq_true h3]; rfl, rfl⟩
                  · by_cases h4 : D = wl
                    · have h4' : (D == (wl : Int)) = true := by simpa using h4
                      by_cases h5 : Dk.bit mask (k % 128) = true
                      · have hb1 : (bv (mq >>> r &&& 1#8) == 1) = true := by
                          rw [HBIT.out] at h5
                          have e : mq >>> r &&& 1#8 = 1#8 := beq_iff_eq.1 h5
                          rw [e]
                          rfl
                        have H4 := Lib.hid h4
                        have H5 := Lib.hid h5
                        clear h4 h5
                        go_wp2_with fail
                        go_meet
                        case rel => exact ⟨by rw [HTH.out, H5.out, decide_eq_true h1, decide_eq_true h2, decide_eq_true H4.out]; simp, rfl⟩
                      · have hb1 : (bv (mq >>> r &&& 1#8) == 1) = false := by
                          rw [HBIT.out] at h5
                          rw [beq_eq_false_iff_ne]
                          intro hc
                          apply h5
                          rw [beq_iff_eq]
                          exact bv_inj hc
                        have H4 := Lib.hid h4
                        have H5 := Lib.hid (Bool.not_eq_true _ ▸ h5 : Dk.bit mask (k % 128) = false)
                        clear h4 h5
                        go_wp2_with fail
                        go_meet
                        case rel => exact ⟨by rw [HTH.out, H5.out, decide_eq_false (show ¬ D < (wl : Int) by omega)]; simp, rfl⟩
                    · have h4' : (D == (wl : Int)) = false := by simpa using h4
                      have H4 := Lib.hid h4
                      clear h4
                      go_wp2_with fail
                      go_meet
                      case rel => exact ⟨by rw [HTH.out, decide_eq_false (show ¬ D < (wl : Int) by omega), decide_eq_false H4.out]; simp, rfl⟩
                · go_wp2_with fail
                  go_meet
                  case rel => exact ⟨by rw [HTH.out, decide_eq_false (show ¬ D < (nb : Int) by omega)]; simp, rfl⟩
              · go_wp2_with fail
                go_meet
                case rel => exact ⟨by rw [HTH.out, decide_eq_false (show ¬ 0 ≤ D by omega)]; simp, rfl⟩
            case rest =>
              clear cM hr hq hD
              have hzz := HT.out
              cases hh : Dk.tornHit mask a nb wl k with
              | true =>
                rw [if_pos hh] at hzz
                obtain ⟨j, hj, hj2⟩ : ∃ j : Nat, k = 128 * a + j ∧ j < nb * 128 := by
                  simp only [Dk.tornHit, Bool.and_eq_true, decide_eq_true_eq] at hh
                  exact ⟨k - 128 * a, by omega, by omega⟩
                rw [hh] at hcut
                obtain ⟨rfl, rfl⟩ := hcut
                obtain ⟨gB, cBB, hvB, _, _, _, hsB⟩ := HO8.out.form (nb * 128) HBn.out (by omega)
                have cB1 := hsB.cell j (by rw [HBn.out]; exact hj2)
                rw [Nat.zero_add] at cB1
                unfold byteV at cB1
                rw [show k - 128 * a = j by omega] at hzz
                rw [← hzz] at cB1
                simp only [Value.slice.injEq] at hvB
                obtain ⟨rfl, _, rfl⟩ := hvB
                have hj3 : (k : Int) - 128 * (a : Int) = j := by omega
                have hj4 : (j : Int) < (nb : Int) * 128 := by omega
                clear hzz hh hj hsB HBIT HDE HT
                go_wp2_with fail
                go_round
                case rel => exact ⟨k + 1, by omega, by go_num⟩
                case measure => simp [intOf]; omega
              | false =>
                rw [if_neg (by rw [hh]; simp)] at hzz
                rw [hh] at hcut
                obtain ⟨rfl, rfl⟩ := hcut
                subst hzz
                clear hh HBIT HDE HT
                go_wp2_with fail
                go_round
                case rel => exact ⟨k + 1, by omega, by go_num⟩
                case measure => simp [intOf]; omega
          · obtain rfl : k = 2560 := by omega
            go_wp2_with (go_at_call 21; refine (HWK.out _).mono ?_; rintro e w' ⟨rfl, hb⟩)
            go_ret
            exact ⟨rfl, HS8.out.bel.trans (hb.mono hwz)⟩
end Go.Proofs.Ytdnjjemdnlegdaa
