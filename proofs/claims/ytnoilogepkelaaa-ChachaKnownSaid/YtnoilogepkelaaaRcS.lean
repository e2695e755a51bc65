/-
  The document's answer for chacha: Stream.
-/
import Derived.Test.YtnoilogepkelaaaRcK
import Derived.Test.YtnoilogepkelaaaChaU
import Derived.Deep.RegionHeld3
import Derived.Deep.AppendLies
import Derived.Deep.DeepCutAuto
import Derived.Tactics2
import Derived.StillTactics
import Derived.OwnWalk
import Derived.Laws.Pointers
namespace Go.Proofs.Ytnoilogepkelaaa
set_option linter.unusedVariables false
set_option linter.unusedSimpArgs false
open Go Go.RowKit
attribute [local go_sem] u32_add u8_xor'

theorem Cha.stream_one (key nonce b : List (BitVec 8)) (c : BitVec 32) (i j : Nat) (h : 64 * i + j < b.length) (hj : j < 64) : (Cha.stream key c nonce b).take (64 * i + j + 1) = (Cha.stream key c nonce b).take (64 * i + j) ++ [b.getD (64 * i + j) 0 ^^^ (Cha.block key (c + BitVec.ofNat 32 i) nonce).getD j 0] := by
  rw [take_one _ _ (by rw [Cha.stream_length]; exact h) 0, Cha.stream_getD _ _ _ _ _ h]
  unfold Cha.keyAt
  rw [show (64 * i + j) / 64 = i by omega, show (64 * i + j) % 64 = j by omega]

set_option maxRecDepth 100000 in
set_option maxHeartbeats 4000000 in
theorem rstream_any (key nonce b : List (BitVec 8)) (c : BitVec 32) (v : Value) (w : World) (hs : SlB w v b) (hk : key.length = 32) (hn : nonce.length = 12) (hl : b.length ≤ 100000000) :
    Calls Try.prog 15 #[.agg (bytes key), .int .u32 (wv c), .agg (bytes nonce), v] w fun e w' =>
      (Cha.fits c b.length = false ∧ e = .returned (.tuple #[.slice none 0 0, .int .i64 13]) ∧ Below w.heap.size w w') ∨
      (Cha.fits c b.length = true ∧ ∃ v', e = .returned (.tuple #[v', .int .i64 0]) ∧ OwnB 5 w.heap.size w' v' (Cha.stream key c nonce b) ∧ Below w.heap.size w w') := by
  obtain ⟨a, cap, rfl⟩ := hs.len
  have c0 := wv_nonneg c
  have c1 := wv_lt c
  have HS := Lib.hid hs
  have HK := Lib.hid hk
  have HN := Lib.hid hn
  have HIK := Lib.hid (show (Try.prog.info? 29).map (·.size) = some (bytes key).size by rw [bytes_size, hk]; kernel_rfl)
  have HIN := Lib.hid (show (Try.prog.info? 30).map (·.size) = some (bytes nonce).size by rw [bytes_size, hn]; kernel_rfl)
  have HBK := Lib.hid (fun (ck : BitVec 32) W => rblock_any key nonce ck W hk hn)
  obtain ⟨n, hbn⟩ : ∃ n, b.length = n := ⟨_, rfl⟩
  have HBN := Lib.hid hbn
  rw [hbn] at hl HS ⊢
  obtain ⟨nb, hnb⟩ : ∃ nb : Nat, (n + 63) / 64 = nb := ⟨_, rfl⟩
  have hnb1 : ((n : Int) + 63) / 64 = nb := by omega
  have hnb2 : nb ≤ n := by omega
  have hnb3 : 64 * nb ≤ n + 63 ∧ n ≤ 64 * nb := by omega
  obtain ⟨fk, hfk⟩ : ∃ fk, bytes key = fk := ⟨_, rfl⟩
  obtain ⟨fn, hfn⟩ : ∃ fn, bytes nonce = fn := ⟨_, rfl⟩
  rw [hfk] at HIK HBK ⊢
  rw [hfn] at HIN HBK ⊢
  clear hs hk hn hbn hfk hfn
  obtain ⟨W, hW, hB1, hz1, hk1, hn1⟩ := alloc2 w (.cells fk 29) (.cells fn 30)
  have HX := Lib.hid (And.intro hB1 (And.intro hz1 (And.intro hk1 hn1)))
  have HS1 := Lib.hid (HS.out.below hB1 (Nat.le_refl _))
  have HW := Lib.hid hW
  clear hB1 hz1 hk1 hn1 hW HS
  by_cases hf : Cha.fits c n = true
  · have h1 : nb = 0 ∨ wv c + nb - 1 ≤ 4294967295 := by
      simp only [Cha.fits, Bool.or_eq_true, decide_eq_true_eq] at hf
      unfold wv
      omega
    have HF := Lib.hid hf
    clear hf hnb
    refine Calls.mono (R := fun e w' => ∃ v', e = .returned (.tuple #[v', .int .i64 0]) ∧ OwnB 5 w.heap.size w' v' (Cha.stream key c nonce b) ∧ Below w.heap.size w w') ?_ (fun e w' h => .inr ⟨HF.out, h⟩)
    have HWC : ∀ i : Nat, i < nb → (wv c + (i : Int)) % 4294967296 = wv (c + BitVec.ofNat 32 i) := by
      intro i hi
      unfold wv
      rw [BitVec.toNat_add, BitVec.toNat_ofNat]
      omega
    have HWC := Lib.hid HWC
    obtain ⟨cv, hcv⟩ : ∃ cv, wv c = cv := ⟨_, rfl⟩
    rw [hcv] at c0 c1 h1 HWC ⊢
    clear hcv
    go_enter Try.func15, Try.ntmps15
    go_upto_region 2 with fail
    rw [HW.out]
    go_cut [10, 28] (fun s10 s wx => s10 = .int .i64 nb ∧ s = .bool false ∧ wx = W)
    case first =>
      by_cases h0 : nb = 0
      · subst h0
        go_wp2_with fail
        go_meet
        case rel => exact ⟨by first | rfl | go_num, rfl, rfl⟩
      · have h1' : ¬ 4294967295 < cv + nb - 1 := by omega
        have h0' : 0 < nb := by omega
        clear h1
        go_wp2_with fail
        go_meet
        case rel => exact ⟨by first | rfl | go_num, rfl, rfl⟩
    case rest =>
      obtain ⟨rfl, rfl, rfl⟩ := hcut
      rename World => W0
      clear h1
      have hzW : W0.heap.size = w.heap.size + 2 := HX.out.2.1
      go_wp2
      go_loopw [11, 12] (fun s11 s12 wr => ∃ i : Nat, i ≤ nb ∧ s12 = .int .i64 i ∧ Hid (OwnB 5 W0.heap.size wr s11 ((Cha.stream key c nonce b).take (64 * i))) ∧ Hid (Below W0.heap.size W0 wr)) (fun _ s12 _ => nb - (intOf s12).toNat)
      case atStart => exact ⟨0, Nat.zero_le _, rfl, Lib.hid (OwnB.nil _ _ _), Lib.hid (Below.refl _ _)⟩
      case round =>
        obtain ⟨i, hi, rfl, HO, HB⟩ := hrel
        by_cases hlt : i < nb
        · have hwc := HWC.out i hlt
          have rK := (HB.out.block _ (by omega)).trans HX.out.2.2.1
          have rN := (HB.out.block _ (by omega)).trans HX.out.2.2.2
          have RK := Lib.hid rK
          have RN := Lib.hid rN
          have hbk := fun W => HBK.out (c + BitVec.ofNat 32 i) W
          have hbl := Cha.block_length key (c + BitVec.ofNat 32 i) nonce
          obtain ⟨blk, hblk⟩ : ∃ blk, Cha.block key (c + BitVec.ofNat 32 i) nonce = blk := ⟨_, rfl⟩
          rw [hblk] at hbk hbl
          have HBK2 := Lib.hid hbk
          have HBLK := Lib.hid hblk
          have HBL := Lib.hid hbl
          have IB := Lib.hid (show (Try.prog.info? 34).map (·.size) = some (bytes blk).size by rw [bytes_size, hbl]; kernel_rfl)
          have ZB := Lib.hid (show (bytes (List.replicate 64 0)).size = (bytes blk).size by rw [bytes_size, bytes_size, hbl]; rfl)
          clear rK rN hbk hbl hblk
          go_upto_region 10 with (first
            | (refine wpList_load_row rfl 29 (.tmp 4) rfl (w.heap.size) rfl _ _ _ _ RK.out Try.underlying29 rfl HIK.out ?_)
            | (refine wpList_load_row rfl 30 (.tmp 6) rfl (w.heap.size + 1) rfl _ _ _ _ RN.out Try.underlying30 rfl HIN.out ?_)
            | (go_at_call 13; with_reducible refine Calls.mono (HBK2.out _) ?_; rintro e w3 ⟨rfl, hb3⟩; have HB3 := Lib.hid hb3; clear hb3)
            | (refine wpList_store_row rfl 34 (.tmp 13) (.tmp 40) rfl _ _ rfl rfl _ _ (heap_alloc_new _ _) IB.out ZB.out (bytes_one _) ?_; rw [World.setRow_alloc_new]))
          have hz3 := HB3.out.size
          have hX : ∃ X, w3.alloc (.cells (bytes blk) 34) = X ∧ Below wr.heap.size wr X ∧ X.heap.size = w3.heap.size + 1 ∧ X.heap[w3.heap.size]? = some (.cells (bytes blk) 34 (0, 0)) :=
            ⟨_, rfl, HB3.out.trans (((Below.refl _ w3).alloc (Nat.le_refl _) _).mono hz3), by simp, heap_alloc_new _ _⟩
          obtain ⟨X, hX, hBX, hXs, hXb⟩ := hX
          rw [hX]
          have hzr := HB.out.size
          have HBX := Lib.hid (HB.out.trans (hBX.mono hzr))
          have HXB := Lib.hid hXb
          have HOX := Lib.hid (HO.out.below hBX (Nat.le_refl _))
          generalize w3.heap.size = D at *
          clear hX hBX hXb HO HB hwc RK RN HBK2 IB ZB
          go_loopw [11, 14] (fun s11 s14 wq => ∃ j : Nat, j ≤ 64 ∧ 64 * i + j ≤ n ∧ s14 = .int .i64 ((64 * i + j : Nat) : Int) ∧ Hid (OwnB 5 W0.heap.size wq s11 ((Cha.stream key c nonce b).take (64 * i + j))) ∧ Hid (Below X.heap.size X wq ∨ True) ∧ Hid (Below W0.heap.size W0 wq) ∧ Hid (wq.heap[D]? = some (.cells (bytes blk) 34 (0, 0)))) (fun _ s14 _ => n + 64 - (intOf s14).toNat)
          case atStart => exact ⟨0, Nat.zero_le _, by omega, by rw [Nat.add_zero]; go_num, by rw [Nat.add_zero]; exact HOX, Lib.hid (.inl (Below.refl _ _)), HBX, HXB⟩
          case round =>
            clear HOX HBX HXB
            obtain ⟨j, hj, hjn, rfl, HO, _, HB, HD⟩ := hrel
            obtain ⟨m, hm⟩ : ∃ m : Nat, 64 * i + j = m := ⟨_, rfl⟩
            have hsub : (m : Int) - 64 * (i : Int) = j := by omega
            rw [hm] at HO hjn ⊢
            go_upto_region 10 with fail
            go_cut [53] (fun s wx => s = .bool (decide (j < 64 ∧ m < n)) ∧ wx = wr)
            case first =>
              by_cases h1 : j < 64
              · have h1' : (m : Int) < 64 * (i : Int) + 64 := by omega
                by_cases h2 : m < n
                all_goals
                  go_wp2_with fail
                  go_meet
                  case rel => exact ⟨by simp [h1, h2] <;> omega, rfl⟩
              · have h1' : ¬ (m : Int) < 64 * (i : Int) + 64 := by omega
                go_wp2_with fail
                go_meet
                case rel => exact ⟨by simp [h1] <;> omega, rfl⟩
            case rest =>
              by_cases hc : j < 64 ∧ m < n
              · rw [decide_eq_true hc] at hcut
                obtain ⟨rfl, rfl⟩ := hcut
                obtain ⟨h1, h2⟩ := hc
                have hn0 : 0 < n := by omega
                obtain ⟨bb, off, capb, hsv, _, _⟩ := HS1.out.open_ n HBN.out hn0
                simp only [Value.slice.injEq] at hsv
                obtain ⟨rfl, _, rfl⟩ := hsv
                obtain ⟨x, hx⟩ : ∃ x, b.getD m 0 = x := ⟨_, rfl⟩
                obtain ⟨y, hy⟩ : ∃ y, blk.getD j 0 = y := ⟨_, rfl⟩
                have cg : wc.cell? ⟨bb, off + m, none⟩ = some (.int .u8 (bv x)) := by
                  rw [(HS1.out.below HB.out (Nat.le_refl _)).cell m (by rw [HBN.out]; exact h2), hx]; rfl
                have cb : wc.cell? ⟨D, j, none⟩ = some (.int .u8 (bv y)) := (cell_of_row _ _ _ _ _ _ HD.out).trans (by rw [bytes_get? _ _ (by rw [HBL.out]; omega), hy])
                have hst := Cha.stream_one key nonce b c i j (by rw [hm, HBN.out]; exact h2) h1
                rw [HBLK.out, hm, hx, hy] at hst
                have HST := Lib.hid hst
                have hzq := HB.out.size
                obtain ⟨a', cap', rfl⟩ := HO.out.sl.len
                have hll : ((Cha.stream key c nonce b).take m).length = m := by rw [List.length_take, Cha.stream_length, HBN.out]; omega
                rw [hll] at HO ⊢
                have HLL := Lib.hid hll
                have hjm : j ≤ m := by omega
                have h1i : (j : Int) < 64 := by omega
                have e1 : IntKind.i64.wrap (64 * (i : Int)) = 64 * i := by rw [IntKind.wrap_i64]; omega
                have e2 : IntKind.i64.wrap (j : Int) = j := by rw [IntKind.wrap_i64]; omega
                have HMJ := Lib.hid hm
                clear hx hy hst hm hll
                generalize (Cha.stream key c nonce b).take m = tk at HO HST HLL
                have hown := HO.out.2
                have ak : (Value.slice a' m cap').ownBlock ≠ some bb := fun e => by have := (World.ownsRow.lt HO.out bb e).1; omega
                have ad : (Value.slice a' m cap').ownBlock ≠ some D := fun e => by
                  rcases HO.out.2 with ⟨hn, _⟩ | ⟨g', c', cur, e', _, hb', _⟩
                  · rw [hn] at e; cases e
                  · rw [e'] at e
                    simp only [Value.ownBlock, Option.some.injEq] at e
                    subst e
                    rw [hb'] at HD
                    have := HD.out
                    simp at this
                have lb : bb < wc.heap.size := by omega
                have lD : D < wc.heap.size := (Array.getElem?_eq_some_iff.1 HD.out).1
                obtain ⟨i0, hi0, hz0, hz1, hz2⟩ := info_parts info_u8
                have hm0 : (0 : Int) ≤ (m : Int) := Int.natCast_nonneg _
                have hm1 : (m : Int) < (n : Int) := by omega
                have hj0 : (0 : Int) ≤ (j : Int) := Int.natCast_nonneg _
                have hlen : tk.length + 1 ≤ 1000000000 := by rw [HLL.out]; omega
                have HOW := HO.out
                clear hown
                go_upto_region 12 with fail
                go_region_held3 (fun w' => w'.cell? ⟨bb, off + m, none⟩ = some (.int .u8 (bv x)) ∧ w'.cell? ⟨D, j, none⟩ = some (.int .u8 (bv y)))
                  (first
                    | go_keep
                    | (go_split_ands
                       refine ⟨?_, ?_⟩
                       · (rw [hgrow.cell_far _ (by simp; omega) (Ne.symm ak)]; assumption)
                       · (rw [hgrow.cell_far _ (by simp; omega) (Ne.symm ad)]; assumption)))
                  ((refine step_append_lies _ (by rfl) _ _ _ (by rfl) W0.heap.size 5 i0 _ 1 1 Try.underlying40 hi0 hz0 hz1 hz2 rfl (by omega) (.slice a' m cap') tk.length (bcells tk) (by rfl) ((HOW.alloc _).drew)
                      ⟨wc.heap.size, 0, none⟩ 1 1 [.int .u8 (bv (x ^^^ y))] (by rfl) (by rfl) (World.news_of_block (cs := #[.int .u8 (bv (x ^^^ y))]) (t := 5) (fr := (0, 0)) (heap_alloc_new wc _)) (by simp [Value.oneCell'])
                      (by omega) (by unfold maxLen; omega) (by omega) (by simp; omega) (wc.heap.size + 1) (by simp) ?_; intro gg cap w1 hown1 hgrow hat hlt))
                have hd1 : w1.heap[D]? = some (.cells (bytes blk) 34 (0, 0)) := (hgrow.block D (by simp; omega) (fun e => ad e.symm)).trans ((heapA_old wc _ D lD).trans HD.out)
                have hb1 : Below W0.heap.size W0 w1 := ((HB.out.alloc hzq _).drew).grown hgrow (by simp; omega) (fun k e => (World.ownsRow.lt HO.out k e).1)
                have ho1 : OwnB 5 W0.heap.size w1 (.slice (some ⟨gg, 0, none⟩) (tk.length + 1) cap) ((Cha.stream key c nonce b).take (64 * i + (j + 1))) := by
                  rw [← Nat.add_assoc, HMJ.out, HST.out]
                  simpa [OwnB, bcells_append, bcells, byteV] using hown1
                have HO2 := Lib.hid ho1
                have HB2 := Lib.hid hb1
                have HD2 := Lib.hid hd1
                have hmj := HMJ.out
                clear hd1 hb1 ho1 hown1 hgrow
                go_wp2
                exact ⟨⟨j + 1, by omega, by omega, by go_num, HO2, Lib.hid (.inr trivial), HB2, HD2⟩, by simp [intOf]; omega⟩
              · rw [decide_eq_false hc] at hcut
                obtain ⟨rfl, rfl⟩ := hcut
                have HO2 : Hid (OwnB 5 W0.heap.size wc u11 ((Cha.stream key c nonce b).take (64 * (i + 1)))) := Lib.hid (by
                  have h := HO.out
                  by_cases h64 : j = 64
                  · rw [show 64 * (i + 1) = m by omega]; exact h
                  · rw [List.take_of_length_le (by rw [Cha.stream_length, HBN.out]; omega)] at h ⊢; exact h)
                go_wp2
                exact ⟨⟨i + 1, by omega, by go_num, HO2, HB⟩, by simp [intOf]; omega⟩
        · obtain rfl : i = nb := by omega
          go_wp2
          go_ret2
          refine ⟨_, rfl, ?_, HX.out.1.trans (HB.out.mono (by omega))⟩
          have h := HO.out
          rw [List.take_of_length_le (by rw [Cha.stream_length, HBN.out]; omega)] at h
          exact h.mono (by omega)
  · have h1 : ¬ nb = 0 ∧ 4294967295 < wv c + nb - 1 := by
      simp only [Cha.fits, Bool.or_eq_true, decide_eq_true_eq] at hf
      unfold wv
      omega
    have hf' : Cha.fits c n = false := by simpa using hf
    have HF := Lib.hid hf'
    clear hf hf' hnb
    refine Calls.mono (R := fun e w' => e = .returned (.tuple #[.slice none 0 0, .int .i64 13]) ∧ Below w.heap.size w w') ?_ (fun e w' h => .inl ⟨HF.out, h⟩)
    generalize wv c = cv at *
    obtain ⟨h0, h1⟩ := h1
    have h0' : 0 < nb := by omega
    go_enter Try.func15, Try.ntmps15
    go_wp2
    go_ret2
    exact ⟨rfl, ((Below.refl _ w).alloc (Nat.le_refl _) _).alloc (by simp) _⟩
end Go.Proofs.Ytnoilogepkelaaa
