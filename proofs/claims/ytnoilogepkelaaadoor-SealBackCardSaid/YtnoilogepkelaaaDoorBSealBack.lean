/-
  The tied card of SealBack.
-/
import Derived.Test.YtnoilogepkelaaaDoorBSea
import Derived.Test.YtnoilogepkelaaaDoorBSeaP
import Derived.Test.YtnoilogepkelaaaDoorRows
import Derived.Test.YtnoilogepkelaaaDoorBBase
import Derived.Test.YtnoilogepkelaaaDoorBSha
import Derived.Test.YtnoilogepkelaaaDoorTie
import Derived.Test.YtnoilogepkelaaaDoorCards
import Derived.SevenTiedAt
namespace Go.Proofs.YtnoilogepkelaaaDoor
set_option linter.unusedVariables false
set_option linter.unusedSimpArgs false
open Go Go.RowKit

theorem u32_next (ep : Nat) : ∃ e1 : Nat, IntKind.u32.wrap ((ep : Int) + 1) = (e1 : Int) := ⟨((ep : Int) + 1).toNat % 4294967296, by rw [wrap_u32_mod]; omega⟩

set_option maxRecDepth 100000 in
set_option maxHeartbeats 4000000 in
theorem law_sealBack {w : World} (key : List (BitVec 8)) (hk : key.length = 32) (vc : Value) (ctx : List (BitVec 8)) (hcs : SlB w vc ctx) (pos ep : Nat) (hp : pos < 18446744073709551616) (he : ep < 4294967296) (v2 : Value) (text : List (BitVec 8)) (hs : SlB w v2 text) (hG : Glob w) :
    Calls Tryd.prog 19 #[.agg (bytes key), .agg #[vc, .int .u64 (pos : Int), .int .u32 (ep : Int)], v2] w fun e w' => e = .returned (.bool true) ∧ Below w.heap.size w w' := by
  have hgz := hG.size
  obtain ⟨ac, capc, rfl⟩ := hcs.len
  obtain ⟨at_, capt, rfl⟩ := hs.len
  have HAW := Lib.hid (fun W (hB : Below w.heap.size w W) => sawake_any W (hG.below hB hgz))
  have HIK := Lib.hid (show (Tryd.prog.info? 32).map (·.size) = some (bytes key).size by rw [bytes_size, hk]; kernel_rfl)
  obtain ⟨kb, hkb⟩ : ∃ kb, bytes key = kb := ⟨_, rfl⟩
  have HIP := Lib.hid (fun (x : Int) => (show (Tryd.prog.info? 70).map (·.size) = some (#[.slice ac ctx.length capc, .int .u64 (pos : Int), .int .u32 x] : Array Value).size by kernel_rfl))
  have HLO := Lib.hid (fun q (hq : q = (decide (3000 < text.length) || decide (200 < ctx.length))) W g E fr hg => long_any q ac ctx.length capc (pos : Int) (ep : Int) at_ text.length capt g E fr W hg hq)
  by_cases hlong : 3000 < text.length ∨ 200 < ctx.length
  · have HLT := Lib.hid (fun W g E fr hg => HLO.out true (by simp; omega) W g E fr hg)
    rw [hkb]
    clear hlong HLO hk hkb hG hcs hs
    generalize ctx.length = m at *
    generalize text.length = n at *
    go_enter Tryd.func19, Tryd.ntmps19
    go_upto_region 1 with fail
    obtain ⟨X, hX, hBX, hXs, hX0, hX1⟩ := alloc2 w (.cells kb 32) (.cells #[.slice ac m capc, .int .u64 (pos : Int), .int .u32 (ep : Int)] 70)
    rw [hX]
    have HBX := Lib.hid hBX
    have HX1 := Lib.hid hX1
    clear hX hBX hXs hX0 hX1
    go_wp2_with (first
      | (refine wpList_load_row rfl 70 (.tmp 4) rfl (w.heap.size + 1) rfl _ _ _ _ HX1.out Tryd.underlying70 rfl (HIP.out _) ?_)
      | (go_at_call 56; (with_reducible refine Calls.mono (HLT.out _ _ _ _ (heap_alloc_new X _)) ?_); rintro e w1 ⟨rfl, hb⟩; have HB1 := Lib.hid (HBX.out.trans ((((Below.refl X.heap.size X).alloc (Nat.le_refl _) _).trans (hb.mono (by simp))).mono HBX.out.size)); clear hb)
      | (go_at_call 52; (with_reducible refine Calls.mono (HAW.out _ HB1.out) ?_); rintro e w2 ⟨rfl, hb⟩; have HB2 := Lib.hid (HB1.out.trans (hb.mono HB1.out.size)); clear hb))
    go_ret
    exact ⟨rfl, HB2.out⟩
  · have HLT := Lib.hid (fun W g E fr hg => HLO.out false (by simp; omega) W g E fr hg)
    have htl : text.length ≤ 3000 := by omega
    have hcl : ctx.length ≤ 200 := by omega
    have HSE := Lib.hid (fun W (hB : Below w.heap.size w W) => seal_ok key ctx hk (by omega) _ pos ep hp he text _ W (hs.below hB (Nat.le_refl _)) (hcs.below hB (Nat.le_refl _)) (by omega) (hG.below hB hgz))
    have hsl := Sea.seal_length key ctx pos ep text (by omega)
    have hbl := Sea.bucket_le text.length
    have HOP := Lib.hid (fun (e1 : Nat) v W (hv : SlB W v (Sea.seal_ key ctx pos ep text)) (hB : Below w.heap.size w W) => open_yes (Sea.open_seal key ctx pos ep text he (by omega)) hk (by omega) _ e1 hp v W hv (hcs.below hB (Nat.le_refl _)) (by omega) (hG.below hB hgz))
    have HBK := Lib.hid (fun W => bucket_nat text.length (by omega) W)
    have HTS := Lib.hid (fun W (hB : Below w.heap.size w W) => hs.below hB (Nat.le_refl _))
    obtain ⟨S, hS⟩ : ∃ S, Sea.seal_ key ctx pos ep text = S := ⟨_, rfl⟩
    rw [hS] at hsl
    simp only [hS] at HSE HOP
    obtain ⟨B, hB⟩ : ∃ B, Sea.bucket text.length = B := ⟨_, rfl⟩
    rw [hB] at hsl hbl HBK
    obtain ⟨e1, hw1⟩ := u32_next ep
    rw [hkb] at HIK HSE HOP ⊢
    have HSL := Lib.hid hsl
    obtain ⟨TX, hTX⟩ : ∃ TX, strB text = TX := ⟨_, rfl⟩
    have HTX := Lib.hid hTX
    clear hlong HLO hk hkb hG hcs hs hS hB hsl hTX
    generalize ctx.length = m at *
    obtain ⟨n, hn⟩ : ∃ n, text.length = n := ⟨_, rfl⟩
    rw [hn] at HLT HSE HBK HTS htl ⊢
    clear hn
    go_enter Tryd.func19, Tryd.ntmps19
    go_upto_region 1 with fail
    obtain ⟨X, hX, hBX, hXs, hX0, hX1⟩ := alloc2 w (.cells kb 32) (.cells #[.slice ac m capc, .int .u64 (pos : Int), .int .u32 (ep : Int)] 70)
    rw [hX]
    have HBX := Lib.hid hBX
    have HX1 := Lib.hid hX1
    have HXR := Lib.hid (fun W (hW : Below X.heap.size X W) => And.intro ((hW.block w.heap.size (by omega)).trans hX0) ((hW.block (w.heap.size + 1) (by omega)).trans hX1))
    have HXS := Lib.hid hXs
    clear hX hBX hXs hX0 hX1
    go_upto_region 3 with (first
      | (refine wpList_load_row rfl 70 (.tmp 4) rfl (w.heap.size + 1) rfl _ _ _ _ HX1.out Tryd.underlying70 rfl (HIP.out _) ?_)
      | (go_at_call 56; (with_reducible refine Calls.mono (HLT.out _ _ _ _ (heap_alloc_new X _)) ?_); rintro e w1 ⟨rfl, hb⟩; have HB1 := Lib.hid (((Below.refl X.heap.size X).alloc (Nat.le_refl _) _).trans (hb.mono (by simp))); clear hb))
    have HW1 := Lib.hid (HBX.out.trans (HB1.out.mono HBX.out.size))
    have HR1 := Lib.hid (HXR.out _ HB1.out)
    go_upto_region 4 with (first
      | (refine wpList_load_row rfl 32 (.tmp 3) rfl w.heap.size rfl _ _ _ _ HR1.out.1 Tryd.underlying32 rfl HIK.out ?_)
      | (refine wpList_load_row rfl 70 (.tmp 4) rfl (w.heap.size + 1) rfl _ _ _ _ HR1.out.2 Tryd.underlying70 rfl (HIP.out _) ?_)
      | (go_at_call 53; (with_reducible refine Calls.mono (HSE.out _ HW1.out) ?_); rintro e w2 ⟨v2, rfl, ho, hb⟩; obtain ⟨a2, c2, rfl⟩ := ho.sl.len; have HS2 := Lib.hid ho.sl; have HB2 := Lib.hid (HB1.out.trans (hb.mono HB1.out.size)); clear ho hb))
    have HW2 := Lib.hid (HBX.out.trans (HB2.out.mono HBX.out.size))
    have HR2 := Lib.hid (HXR.out _ HB2.out)
    rw [HSL.out]
    go_upto_region 5 with (first
      | (refine wpList_load_row rfl 70 (.tmp 4) rfl (w.heap.size + 1) rfl _ _ _ _ HR2.out.2 Tryd.underlying70 rfl (HIP.out _) ?_)
      | (refine wpList_store_row rfl 70 (.tmp 9) (.tmp 25) rfl _ _ rfl rfl _ _ (heap_alloc_new _ _) (HIP.out _) rfl (by kernel_rfl) ?_; rw [World.setRow_alloc_new]))
    obtain ⟨Y, hY, hBY, hYs, hY0⟩ := alloc1 w2 (.cells #[.slice ac m capc, .int .u64 (pos : Int), .int .u32 (ep : Int)] 70)
    rw [hY]
    have hz2 := HB2.out.size
    have hyx := HB2.out.trans (hBY.mono hz2)
    have hxs := HXS.out
    have c1 := cell_of_row Y (w.heap.size + 1) 2 _ _ _ (HXR.out _ hyx).2
    have c2' := cell_of_row Y w2.heap.size 2 _ _ _ hY0
    have f2 := frozen_of_row Y w2.heap.size 2 _ _ hY0
    have HY0 := Lib.hid hY0
    have HYX := Lib.hid hyx
    have HZ2 := Lib.hid (show X.heap.size ≤ w2.heap.size ∧ w.heap.size + 1 < w2.heap.size by omega)
    have HS3 := Lib.hid (HS2.out.below hBY (Nat.le_refl _))
    clear hY hBY hYs hY0 hz2 hyx hxs
    go_upto_region 6 with fail
    obtain ⟨Z, hZ⟩ : ∃ Z, Y.setCell ⟨w2.heap.size, 2, none⟩ (.int .u32 (e1 : Int)) = Z := ⟨_, rfl⟩
    rw [hZ]
    have hkz : Kept [w2.heap.size] Y Z := by rw [← hZ]; exact (Kept.refl _ Y).setCell (by simp) _
    have hz0 : Z.heap[w2.heap.size]? = some (.cells #[.slice ac m capc, .int .u64 (pos : Int), .int .u32 (e1 : Int)] 70 (0, 0)) := by
      rw [← hZ]
      exact heap_setCell_same Y w2.heap.size 2 _ _ _ HY0.out
    have HBZ := Lib.hid (show Below X.heap.size X Z from HYX.out.trans (hkz.toBelow (B := X.heap.size) (by simp; exact HZ2.out.1) HYX.out.size))
    have HS4 := Lib.hid (SlB.keptV HS3.out hkz (by
      intro k hk
      have h1 := (Array.getElem?_eq_some_iff.1 HY0.out).1
      have h2 := HS2.out.lt (by
        intro e
        have := HSL.out
        rw [e, List.length_nil] at this
        omega) k hk
      simp
      omega))
    have HZ0 := Lib.hid hz0
    have HWZ := Lib.hid (HBX.out.trans (HBZ.out.mono HBX.out.size))
    have HRZ := Lib.hid (HXR.out _ HBZ.out)
    clear hZ hkz hz0 c1 c2' f2 HY0 HYX HZ2 HS3 HS2 HR1 HR2 HB1 HB2 HW1 HW2
    go_upto_region 7 with (first
      | (refine wpList_load_row rfl 32 (.tmp 3) rfl w.heap.size rfl _ _ _ _ HRZ.out.1 Tryd.underlying32 rfl HIK.out ?_)
      | (refine wpList_load_row rfl 70 (.tmp 9) rfl w2.heap.size rfl _ _ _ _ HZ0.out Tryd.underlying70 rfl (HIP.out _) ?_)
      | (go_at_call 55; rw [← HSL.out]; (with_reducible refine Calls.mono (HOP.out _ _ _ HS4.out HWZ.out) ?_); rw [HSL.out]; rintro e w3 ⟨v3, rfl, ho, hb⟩; have HS5 := Lib.hid ho.sl; have HB3 := Lib.hid (HBZ.out.trans (hb.mono HBZ.out.size)); clear ho hb))
    have HW3 := Lib.hid (HBX.out.trans (HB3.out.mono HBX.out.size))
    have c5 := cell_of_row w3 (w.heap.size + 1) 2 _ _ _ (HXR.out _ HB3.out).2
    have k1 := conv_any HS5.out
    have k2 := conv_any (HTS.out _ HW3.out)
    rw [HTX.out] at k1 k2
    have h36 : (((36 + B : Nat) : Int) == 36 + (B : Int)) = true := by simp
    clear HXR HRZ HZ0 HBZ HWZ HS4 HS5
    go_wp2_with (first
      | (go_at_call 49; (with_reducible refine Calls.mono (HBK.out _) ?_); rintro e w' ⟨rfl, rfl⟩)
      | (go_at_call 52; (with_reducible refine Calls.mono (HAW.out _ HW3.out) ?_); rintro e w9 ⟨rfl, hb⟩; have HB9 := Lib.hid (HW3.out.trans (hb.mono HW3.out.size)); clear hb))
    go_ret
    exact ⟨rfl, HB9.out⟩
end Go.Proofs.YtnoilogepkelaaaDoor
namespace Go.Proofs.YtnoilogepkelaaaDoor.rowSealBack
open Go.ChangeShapes Go.WideShapes Go.ChangeAt Go.RowKit
open Go.ChangeMaps (open_string)
set_option linter.unusedVariables false
set_option linter.unusedSimpArgs false

theorem own : ownKnob Tryd.prog.godebug = none := by kernel_rfl
theorem laidOut : laidOutB Tryd.prog = true := by kernel_rfl

set_option maxRecDepth 100000 in
theorem lifted (os : Os) (started : os.Started) (H : Type) (enc : TypeId × Value → H) :
    ReturnsInHanded {} Tryd.checked os 19 .any (fun w args => (Rows.sealBackSpec.pre enc Tryd.prog Tryd.f19 [] false w args ∧ laidMet Tryd.prog Ls w) ∧ sizedMet enc Tryd.prog Tryd.f19 (OpenSpec.ofChange Rows.sealBackSpec) false w args)
      (Rows.sealBackSpec.post enc Tryd.prog Tryd.f19 false true false false) := by
  refine returnsInHanded_of_change_and (C := Tryd.checked) (X := fun w _ => laidMet Tryd.prog Ls w) (fun _ _ _ hh h => h.of_heap hh) own started (by kernel_rfl) Tryd.func19
    (ChangeSpec.witness_at (enc := enc) (C := Tryd.checked) (os := os) (X := fun w _ => laidMet Tryd.prog Ls w) false (laidWorld os) #[.agg #[.int .u8 0, .int .u8 0, .int .u8 0, .int .u8 0, .int .u8 0, .int .u8 0, .int .u8 0, .int .u8 0, .int .u8 0, .int .u8 0, .int .u8 0, .int .u8 0, .int .u8 0, .int .u8 0, .int .u8 0, .int .u8 0, .int .u8 0, .int .u8 0, .int .u8 0, .int .u8 0, .int .u8 0, .int .u8 0, .int .u8 0, .int .u8 0, .int .u8 0, .int .u8 0, .int .u8 0, .int .u8 0, .int .u8 0, .int .u8 0, .int .u8 0, .int .u8 0], .agg #[.slice none 0 0, .int .u64 0, .int .u32 0], .slice none 0 0] 8 rfl (by kernel_rfl) (by kernel_rfl) (by kernel_rfl) (by kernel_rfl) (by kernel_rfl) (laid_world os _)) ?_
  intro W base args ds gs before hval0 hW _ _ hL _
  have hval : ∀ (j : Nat) t v, Tryd.f19.params[j]? = some t → args[j]? = some v → Value.okWide Tryd.prog W .any base t v := hval0
  have hW' := hW
  obtain ⟨p, q, hA0, hV, rfl, hfz, hnd⟩ := hW
  have hA : DataW.TrodAll enc Tryd.prog W 0 (fun _ => true) true Tryd.f19.params.toList args.toList ds p := hA0
  rw [Tryd.params19] at hA hval
  obtain ⟨v0, vs0, d0, ds0, p0, q0, hargs, rfl, rfl, h0, r0⟩ := trodAll_cons hA
  obtain ⟨v1, vs1, d1, ds1, p1, q1, rfl, rfl, rfl, h1, r1⟩ := trodAll_cons r0
  obtain ⟨v2, vs2, d2, ds2, p2, q2, rfl, rfl, rfl, h2, r2⟩ := trodAll_cons r1
  obtain ⟨rfl, rfl, rfl⟩ := trodAll_nil r2
  obtain rfl : args = #[v0, v1, v2] := by cases args; simp_all
  obtain ⟨rfl, rfl⟩ := trodVars_none hV
  have k0 := h0
  have lt0 : ∀ x ∈ p0, x.block < W.heap.size := by obtain ⟨m, hm⟩ := k0; exact DataW.trod_lt m _ _ _ hm
  have k1 := h1
  have lt1 : ∀ x ∈ p1, x.block < W.heap.size := by obtain ⟨m, hm⟩ := k1; exact DataW.trod_lt m _ _ _ hm
  have k2 := h2
  have lt2 : ∀ x ∈ p2, x.block < W.heap.size := by obtain ⟨m, hm⟩ := k2; exact DataW.trod_lt m _ _ _ hm
  obtain ⟨x0, l0, rfl⟩ := open_bytes (n := 32) Tryd.underlying32 Tryd.underlying5 (by kernel_rfl) (by kernel_rfl) (hval 0 32 v0 rfl rfl)
  obtain ⟨cs1, rfl⟩ := agg_form Tryd.underlying70 (hval 1 70 v1 rfl rfl)
  obtain ⟨m1, hm1⟩ := h1
  obtain ⟨y1_0, y1_1, y1_2, y1_3, ecs1, y1_4, y1_5, y1_6⟩ := open_place hm1
  obtain rfl : cs1 = (placeC y1_0 y1_2 y1_3).toArray := by rw [← ecs1]; simp [Value.cells]
  obtain ⟨x2, w2⟩ := open_slice8 Tryd.underlying22 Tryd.underlying5 (by kernel_rfl) (hval 2 22 v2 rfl rfl) h2
  clear hA0 hval0
  refine (law_sealBack x0 l0 y1_0 y1_1 y1_4 y1_2 y1_3 y1_5 y1_6 v2 x2 w2 (glob_of_vars (vars_of_laid hL))).mono fun e W' ⟨he, bel⟩ => ?_
  subst he
  exact ⟨_, rfl, _, _, _, [], _, [], hW', trodAll_mk1 (shut_bool Tryd.underlying4 _), (trodAll_cons_mk (Below.trod laidOut (by kernel_rfl) (of_decide_eq_true (by kernel_rfl)) k0 bel lt0) (trodAll_cons_mk (Below.trod laidOut (by kernel_rfl) (of_decide_eq_true (by kernel_rfl)) k1 bel lt1) (trodAll_cons_mk (Below.trod laidOut (by kernel_rfl) (of_decide_eq_true (by kernel_rfl)) k2 bel lt2) trodAll_mk0))), rfl, bel.frame _, fun h => by cases h⟩

theorem proved : Rows.SealBackSaid :=
  OpenClaim.holds_of_wide 19 Tryd.f19 rfl rfl rfl rfl rfl rfl rfl ⟨rfl, rfl, rfl, rfl, rfl⟩ rfl rfl rfl rfl rfl (by kernel_rfl) Tryd.func19 (by kernel_rfl)
    (of_decide_eq_true (by kernel_rfl)) (by unfold Func.isWrapper; first | (rw [if_pos (by decide +kernel)]; kernel_rfl) | (rw [if_neg (by decide +kernel)]; exact ⟨rfl, rfl⟩))
    (fun os started H enc _ => lifted os started H enc)
end Go.Proofs.YtnoilogepkelaaaDoor.rowSealBack
namespace Go.Proofs.YtnoilogepkelaaaDoor.cardSealBack
open Go
theorem proved : Rows.SealBackCardSaid :=
  Claim7.holds_tied_plain_at .later [] [.data, .data] true (true, "7a6ec62b16e8eff594300fbad7bbffdd2b98b027ed8fb16ef0f44a85b4f277cd") false
    rowSealBack.proved (fun _ h => by cases h) (by kernel_rfl) (fun _ h => by cases h) sealBack_row_tie rfl ⟨rfl, rfl⟩ (by kernel_rfl) rfl
    (fun f fn hf hfn => by
      obtain rfl : f = 19 := Option.some.inj ((show Tryd.prog.funcNamed "redwax/redwaxlaw11.SealBack" = some 19 by kernel_rfl).symm.trans hf) |>.symm
      obtain rfl : fn = Tryd.f19 := (Option.some.inj (Tryd.func19.symm.trans hfn)).symm
      exact ⟨by kernel_rfl, fun j t ht => by
        rw [Tryd.params19] at ht
        rcases j with _ | _ | _ | j
        · obtain rfl : t = 32 := by simpa using ht.symm
          exact (show Tryd.prog.wantsStandIn 32 = false by kernel_rfl)
        · obtain rfl : t = 70 := by simpa using ht.symm
          exact (show Tryd.prog.wantsStandIn 70 = false by kernel_rfl)
        · obtain rfl : t = 22 := by simpa using ht.symm
          exact (show Tryd.prog.wantsStandIn 22 = false by kernel_rfl)
        · simp at ht⟩)
    (by kernel_rfl)
end Go.Proofs.YtnoilogepkelaaaDoor.cardSealBack
