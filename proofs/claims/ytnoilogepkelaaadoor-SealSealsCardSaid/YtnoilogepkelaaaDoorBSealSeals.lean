/-
  The tied card of SealSeals.
-/
import Derived.Test.YtnoilogepkelaaaDoorBRSea
import Derived.Test.YtnoilogepkelaaaDoorRows
import Derived.Test.YtnoilogepkelaaaDoorBBase
import Derived.Test.YtnoilogepkelaaaDoorBSha
import Derived.Test.YtnoilogepkelaaaDoorTie
import Derived.Test.YtnoilogepkelaaaDoorCards
import Derived.SevenTiedAt
namespace Go.Proofs.YtnoilogepkelaaaDoor
set_option linter.unusedVariables false
set_option linter.unusedSimpArgs false
open Go Go.RowKit

set_option maxRecDepth 100000 in
set_option maxHeartbeats 4000000 in
theorem law_sealSeals {w : World} (key : List (BitVec 8)) (hk : key.length = 32) (vc : Value) (ctx : List (BitVec 8)) (hcs : SlB w vc ctx) (pos ep : Nat) (hp : pos < 18446744073709551616) (he : ep < 4294967296) (v2 : Value) (s : List (BitVec 8)) (hs : SlB w v2 s) (hG : Glob w) :
    Calls Tryd.prog 21 #[.agg (bytes key), .agg #[vc, .int .u64 (pos : Int), .int .u32 (ep : Int)], v2] w fun e w' => e = .returned (.bool true) ∧ Below w.heap.size w w' := by
  have hgz := hG.size
  obtain ⟨ac, capc, rfl⟩ := hcs.len
  obtain ⟨as_, caps, rfl⟩ := hs.len
  have HAW := Lib.hid (fun W (hB : Below w.heap.size w W) => sawake_any W (hG.below hB hgz))
  have HIK := Lib.hid (show (Tryd.prog.info? 32).map (·.size) = some (bytes key).size by rw [bytes_size, hk]; kernel_rfl)
  have HIP := Lib.hid (fun (x : Int) => (show (Tryd.prog.info? 70).map (·.size) = some (#[.slice ac ctx.length capc, .int .u64 (pos : Int), .int .u32 x] : Array Value).size by kernel_rfl))
  have HLO := Lib.hid (fun q (hq : q = (decide (3000 < s.length) || decide (200 < ctx.length))) W g E fr hg => long_any q ac ctx.length capc (pos : Int) (ep : Int) as_ s.length caps g E fr W hg hq)
  by_cases hlong : 3000 < s.length ∨ 200 < ctx.length
  · have HLT := Lib.hid (fun W g E fr hg => HLO.out true (by simp; omega) W g E fr hg)
    generalize bytes key = kb at *
    clear hlong HLO hk hG hcs hs
    generalize ctx.length = m at *
    generalize s.length = n at *
    go_enter Tryd.func21, Tryd.ntmps21
    go_upto_region 1 with fail
    obtain ⟨X, hX, hBX, hXs, hX0, hX1⟩ := alloc2 w (.cells kb 32) (.cells #[.slice ac m capc, .int .u64 (pos : Int), .int .u32 (ep : Int)] 70)
    rw [hX]
    have HBX := Lib.hid hBX
    have HX1 := Lib.hid hX1
    clear hX hBX hXs hX0 hX1
    go_wp2_with (first
      | (refine wpList_load_row rfl 70 (.tmp 4) rfl (w.heap.size + 1) rfl _ _ _ _ HX1.out Tryd.underlying70 rfl (HIP.out _) ?_)
      | (go_at_call 56; (with_reducible refine Calls.mono (HLT.out _ _ _ _ (heap_alloc_new X _)) ?_); rintro e w1 ⟨rfl, hb⟩; have HB1 := Lib.hid (HBX.out.trans ((((Below.refl X.heap.size X).alloc (Nat.le_refl _) _).trans (hb.mono (by simp))).mono HBX.out.size)); clear hb)
      | (go_at_call 52; (with_reducible refine Calls.mono (HAW.out _ HB1.out) ?_); rintro e w2 ⟨rfl, hb⟩; have HB2 := Lib.hid (HB1.out.trans (hb.mono HB1.out.size)); clear hb))
    go_ret
    exact ⟨rfl, HB2.out⟩
  · have HLT := Lib.hid (fun W g E fr hg => HLO.out false (by simp; omega) W g E fr hg)
    have HO1 := Lib.hid (fun v W (hv : SlB W v s) (hB : Below w.heap.size w W) => seal_ok key ctx hk (by omega) (.slice ac ctx.length capc) pos ep hp he s v W hv (hcs.below hB (Nat.le_refl _)) (by omega) (hG.below hB hgz))
    have HO2 := Lib.hid (fun W (hB : Below w.heap.size w W) => rseal_ok key ctx hk (by omega) (.slice ac ctx.length capc) pos ep hp he s _ W (hs.below hB (Nat.le_refl _)) (hcs.below hB (Nat.le_refl _)) (by omega))
    have HBK := Lib.hid (fun W => bucket_nat s.length (by omega) W)
    have HRK := Lib.hid (fun W => rbucket_nat s.length (by omega) W)
    have hsl := Sea.seal_length key ctx pos ep s (by omega)
    have hbl := Sea.bucket_le s.length
    obtain ⟨t, ht⟩ : ∃ t, Sea.seal_ key ctx pos ep s = t := ⟨_, rfl⟩
    rw [ht] at hsl
    simp only [ht] at HO1 HO2
    have HTL := Lib.hid (show 0 < t.length ∧ t.length ≤ 200000 by omega)
    have HS := Lib.hid (fun W (hB : Below w.heap.size w W) => hs.below hB (Nat.le_refl _))
    have HSN := Lib.hid (show s.length ≤ 3000 by omega)
    obtain ⟨kb, hkb⟩ : ∃ kb, bytes key = kb := ⟨_, rfl⟩
    rw [hkb] at HIK HO1 HO2 ⊢
    obtain ⟨TS, hTS⟩ : ∃ TS, strB t = TS := ⟨_, rfl⟩
    obtain ⟨SS, hSS⟩ : ∃ SS, strB s = SS := ⟨_, rfl⟩
    have HTS := Lib.hid hTS
    have HSS := Lib.hid hSS
    have HNN := Lib.hid (show s.length = s.length from rfl)
    clear hlong HLO hk hG hcs hs hkb hTS hSS ht hsl hbl
    generalize ctx.length = m at *
    generalize Sea.bucket s.length = BK at HBK HRK
    obtain ⟨n, hn⟩ : ∃ n, s.length = n := ⟨_, rfl⟩
    rw [hn] at HLT HO2 HBK HRK HS HSN ⊢
    have HN := Lib.hid hn
    clear hn HNN
    go_enter Tryd.func21, Tryd.ntmps21
    go_upto_region 1 with fail
    obtain ⟨X, hX, hBX, hXs, hX0, hX1⟩ := alloc2 w (.cells kb 32) (.cells #[.slice ac m capc, .int .u64 (pos : Int), .int .u32 (ep : Int)] 70)
    rw [hX]
    have HBX := Lib.hid hBX
    have HX1 := Lib.hid hX1
    have HXR := Lib.hid (fun W (hW : Below X.heap.size X W) => And.intro ((hW.block w.heap.size (by omega)).trans hX0) ((hW.block (w.heap.size + 1) (by omega)).trans hX1))
    clear hX hBX hXs hX0 hX1
    go_upto_region 3 with (first
      | (refine wpList_load_row rfl 70 (.tmp 4) rfl (w.heap.size + 1) rfl _ _ _ _ HX1.out Tryd.underlying70 rfl (HIP.out _) ?_)
      | (go_at_call 56; (with_reducible refine Calls.mono (HLT.out _ _ _ _ (heap_alloc_new X _)) ?_); rintro e w1 ⟨rfl, hb⟩; have HB1 := Lib.hid (((Below.refl X.heap.size X).alloc (Nat.le_refl _) _).trans (hb.mono (by simp))); clear hb))
    have HW1 := Lib.hid (HBX.out.trans (HB1.out.mono HBX.out.size))
    go_upto_region 4 with (at_builtin; refine wpList_append_b rfl (.tmp 19) (.tmp 20) 22 5 rfl Tryd.underlying22 info_u8 w1.heap.size _ [] (OwnB.made w1 [] (Nat.le_refl _) (by simp)) rfl _ _ ((HS.out _ HW1.out).alloc _) rfl (by have := HN.out; have := HSN.out; simp; omega) (by simp) ?_; intro v5 w5 ho hg hn'; rw [List.nil_append] at ho; obtain ⟨a5, c5, rfl⟩ := ho.sl.len; have HO5 := Lib.hid ho.sl; have HB5 := Lib.hid (HB1.out.trans ((((Below.refl w1.heap.size w1).alloc (Nat.le_refl _) _).grown hg (by simp) (fun k e => (World.ownsRow.lt (OwnB.made (E := 5) (base := w1.heap.size) w1 [] (Nat.le_refl _) (by simp)) k e).1)).mono HB1.out.size)); clear ho hg hn')
    have HW5 := Lib.hid (HBX.out.trans (HB5.out.mono HBX.out.size))
    have HR5 := Lib.hid (HXR.out _ HB5.out)
    go_upto_region 5 with (first
      | (refine wpList_load_row rfl 32 (.tmp 3) rfl w.heap.size rfl _ _ _ _ HR5.out.1 Tryd.underlying32 rfl HIK.out ?_)
      | (refine wpList_load_row rfl 70 (.tmp 4) rfl (w.heap.size + 1) rfl _ _ _ _ HR5.out.2 Tryd.underlying70 rfl (HIP.out _) ?_)
      | (go_at_call 53; (with_reducible refine Calls.mono (HO1.out _ _ HO5.out HW5.out) ?_); rintro e w6 ⟨v6, rfl, ho, hb⟩; have HO6 := Lib.hid ho; have HO7 := Lib.hid (HO5.out.below hb (Nat.le_refl _)); have HB6 := Lib.hid (HB5.out.trans (hb.mono HB5.out.size)); clear ho hb))
    obtain ⟨g6, c6, rfl, hg6, hg6l, hc6, _⟩ := HO6.out.form t.length rfl HTL.out.1
    have HW6 := Lib.hid (HBX.out.trans (HB6.out.mono HBX.out.size))
    have HR6 := Lib.hid (HXR.out _ HB6.out)
    have d0 := cell_of_row w6 (w.heap.size + 1) 0 _ _ _ HR6.out.2
    have d1 := cell_of_row w6 (w.heap.size + 1) 1 _ _ _ HR6.out.2
    have d2 := cell_of_row w6 (w.heap.size + 1) 2 _ _ _ HR6.out.2
    go_upto_region 6 with (first
      | (refine wpList_load_row rfl 32 (.tmp 3) rfl w.heap.size rfl _ _ _ _ HR6.out.1 Tryd.underlying32 rfl HIK.out ?_)
      | (go_at_call 58; (with_reducible refine Calls.mono (HO2.out _ HW6.out) ?_); rintro e w8 ⟨v8, rfl, ho, hb⟩; obtain ⟨a8, c8, rfl⟩ := ho.sl.len; have HO8 := Lib.hid ho.sl; have HO9 := Lib.hid (HO6.out.below hb (Nat.le_refl _)); have HO10 := Lib.hid (HO7.out.below hb (Nat.le_refl _)); have HW8 := Lib.hid (HW6.out.trans (hb.mono HW6.out.size)); clear ho hb))
    have k1 := conv_any HO8.out
    have k2 := conv_any HO9.out.sl
    have k3 := conv_any HO10.out
    have k4 := conv_any (HS.out _ HW8.out)
    rw [HTS.out] at k1 k2
    rw [HSS.out] at k3 k4
    clear d0 d1 d2
    go_upto_region 7 with fail
    have HOB := Lib.hid HW5.out.size
    obtain ⟨N, hN⟩ : ∃ N, t.length = N := ⟨_, rfl⟩
    have HN6 := Lib.hid hN
    have HB5W := Lib.hid (Kept.refl [g6] w8)
    have HLT5 := Lib.hid (fun (hne : s ≠ []) => HO5.out.lt hne)
    rw [hN] at HO9 HTL ⊢
    have HG6 := Lib.hid hg6
    have hNl : N ≤ 200000 := HTL.out.2
    clear k1 k2 k3 k4 hN hg6 hg6l hc6 HO8 HO6
    go_wp2
    go_loopw [13] (fun s13 wr => ∃ i : Nat, i ≤ N ∧ s13 = .int .i64 i ∧ Hid (∃ xs : List (BitVec 8), xs.length = N ∧ OwnB 5 w5.heap.size wr (.slice (some ⟨g6, 0, none⟩) N c6) xs) ∧ Hid (Kept [g6] w8 wr)) (fun s13 _ => N - (intOf s13).toNat)
    case atStart => exact ⟨0, by omega, rfl, Lib.hid ⟨t, HN6.out, HO9.out⟩, HB5W⟩
    case round =>
      obtain ⟨i, hi, rfl, HX, HB⟩ := hrel
      by_cases hlt : i < N
      · obtain ⟨xs, hxl, hxo⟩ := HX.out
        have c0 := hxo.get_cell i (by rw [hxl]; exact hlt)
        have f0 := hxo.not_frozen i
        have HSET := Lib.hid (hxo.set_cell i (by rw [hxl]; exact hlt) (xs.getD i 0 ^^^ 255))
        have HXL := Lib.hid (show (xs.set i (xs.getD i 0 ^^^ 255)).length = N by rw [List.length_set]; exact hxl)
        have HBS := Lib.hid (HB.out.setCell (b := g6) (o := i) (s := none) (by simp) (.int .u8 (bv (xs.getD i 0 ^^^ 255))))
        generalize hxs : xs.set i (xs.getD i 0 ^^^ 255) = zs at HSET HXL
        have hxr : bits .xor .u8 (bv (xs.getD i 0)) 255 = bv (xs.getD i 0 ^^^ 255) := u8_xor' _ 255
        unfold byteV at c0
        generalize xs.getD i 0 ^^^ 255 = z at hxr HSET HBS hxs
        generalize xs.getD i 0 = y at c0 hxr
        clear hxs hxo hxl HX
        go_wp2
        exact ⟨⟨i + 1, by omega, by go_num, Lib.hid ⟨zs, HXL.out, HSET.out⟩, HBS⟩, by simp [intOf] <;> omega⟩
      · obtain rfl : i = N := by omega
        have hob := HOB.out
        have HWR := Lib.hid (HW8.out.trans (HB.out.toBelow (B := w.heap.size) (by have h6 := HG6.out; intro k hk; rw [List.mem_singleton] at hk; omega) HW8.out.size))
        have HO11 := Lib.hid (show SlB wr (.slice a5 s.length c5) s from HO10.out.keptN HB.out (B := w5.heap.size) (by have h6 := HG6.out; intro k hk; rw [List.mem_singleton] at hk; omega) HLT5.out)
        have k3 := conv_any HO11.out
        have k4 := conv_any (HS.out _ HWR.out)
        rw [HSS.out] at k3 k4
        clear hob HX
        go_wp2_with (first
          | (go_at_call 49; (with_reducible refine Calls.mono (HBK.out _) ?_); rintro e w' ⟨rfl, rfl⟩)
          | (go_at_call 50; (with_reducible refine Calls.mono (HRK.out _) ?_); rintro e w' ⟨rfl, rfl⟩)
          | (go_at_call 52; (with_reducible refine Calls.mono (HAW.out _ HWR.out) ?_); rintro e w9 ⟨rfl, hb⟩; have HB9 := Lib.hid (HWR.out.trans (hb.mono HWR.out.size)); clear hb))
        go_ret
        exact ⟨rfl, HB9.out⟩
end Go.Proofs.YtnoilogepkelaaaDoor
namespace Go.Proofs.YtnoilogepkelaaaDoor.rowSealSeals
open Go.ChangeShapes Go.WideShapes Go.ChangeAt Go.RowKit
open Go.ChangeMaps (open_string)
set_option linter.unusedVariables false
set_option linter.unusedSimpArgs false

theorem own : ownKnob Tryd.prog.godebug = none := by kernel_rfl
theorem laidOut : laidOutB Tryd.prog = true := by kernel_rfl

set_option maxRecDepth 100000 in
theorem lifted (os : Os) (started : os.Started) (H : Type) (enc : TypeId × Value → H) :
    ReturnsInHanded {} Tryd.checked os 21 .any (fun w args => (Rows.sealSealsSpec.pre enc Tryd.prog Tryd.f21 [] false w args ∧ laidMet Tryd.prog Ls w) ∧ sizedMet enc Tryd.prog Tryd.f21 (OpenSpec.ofChange Rows.sealSealsSpec) false w args)
      (Rows.sealSealsSpec.post enc Tryd.prog Tryd.f21 false true false false) := by
  refine returnsInHanded_of_change_and (C := Tryd.checked) (X := fun w _ => laidMet Tryd.prog Ls w) (fun _ _ _ hh h => h.of_heap hh) own started (by kernel_rfl) Tryd.func21
    (ChangeSpec.witness_at (enc := enc) (C := Tryd.checked) (os := os) (X := fun w _ => laidMet Tryd.prog Ls w) false (laidWorld os) #[.agg #[.int .u8 0, .int .u8 0, .int .u8 0, .int .u8 0, .int .u8 0, .int .u8 0, .int .u8 0, .int .u8 0, .int .u8 0, .int .u8 0, .int .u8 0, .int .u8 0, .int .u8 0, .int .u8 0, .int .u8 0, .int .u8 0, .int .u8 0, .int .u8 0, .int .u8 0, .int .u8 0, .int .u8 0, .int .u8 0, .int .u8 0, .int .u8 0, .int .u8 0, .int .u8 0, .int .u8 0, .int .u8 0, .int .u8 0, .int .u8 0, .int .u8 0, .int .u8 0], .agg #[.slice none 0 0, .int .u64 0, .int .u32 0], .slice none 0 0] 8 rfl (by kernel_rfl) (by kernel_rfl) (by kernel_rfl) (by kernel_rfl) (by kernel_rfl) (laid_world os _)) ?_
  intro W base args ds gs before hval0 hW _ _ hL _
  have hval : ∀ (j : Nat) t v, Tryd.f21.params[j]? = some t → args[j]? = some v → Value.okWide Tryd.prog W .any base t v := hval0
  have hW' := hW
  obtain ⟨p, q, hA0, hV, rfl, hfz, hnd⟩ := hW
  have hA : DataW.TrodAll enc Tryd.prog W 0 (fun _ => true) true Tryd.f21.params.toList args.toList ds p := hA0
  rw [Tryd.params21] at hA hval
  obtain ⟨v0, vs0, d0, ds0, p0, q0, hargs, rfl, rfl, h0, r0⟩ := trodAll_cons hA
  obtain ⟨v1, vs1, d1, ds1, p1, q1, rfl, rfl, rfl, h1, r1⟩ := trodAll_cons r0
  obtain ⟨v2, vs2, d2, ds2, p2, q2, rfl, rfl, rfl, h2, r2⟩ := trodAll_cons r1
  obtain ⟨rfl, rfl, rfl⟩ := trodAll_nil r2
  obtain rfl : args = #[v0, v1, v2] := by cases args; simp_all
  obtain ⟨rfl, rfl⟩ := trodVars_none hV
  have k0 := h0
  have lt0 : ∀ x ∈ p0, x.block < W.heap.size := by obtain ⟨m, hm⟩ := k0; exact DataW.trod_lt m _ _ _ hm
  have k1 := h1
  have lt1 : ∀ x ∈ p1, x.block < W.heap.size := by obtain ⟨m, hm⟩ := k1; exact DataW.trod_lt m _ _ _ hm
  have k2 := h2
  have lt2 : ∀ x ∈ p2, x.block < W.heap.size := by obtain ⟨m, hm⟩ := k2; exact DataW.trod_lt m _ _ _ hm
  obtain ⟨x0, l0, rfl⟩ := open_bytes (n := 32) Tryd.underlying32 Tryd.underlying5 (by kernel_rfl) (by kernel_rfl) (hval 0 32 v0 rfl rfl)
  obtain ⟨cs1, rfl⟩ := agg_form Tryd.underlying70 (hval 1 70 v1 rfl rfl)
  obtain ⟨m1, hm1⟩ := h1
  obtain ⟨y1_0, y1_1, y1_2, y1_3, ecs1, y1_4, y1_5, y1_6⟩ := open_place hm1
  obtain rfl : cs1 = (placeC y1_0 y1_2 y1_3).toArray := by rw [← ecs1]; simp [Value.cells]
  obtain ⟨x2, w2⟩ := open_slice8 Tryd.underlying22 Tryd.underlying5 (by kernel_rfl) (hval 2 22 v2 rfl rfl) h2
  clear hA0 hval0
  refine (law_sealSeals x0 l0 y1_0 y1_1 y1_4 y1_2 y1_3 y1_5 y1_6 v2 x2 w2 (glob_of_vars (vars_of_laid hL))).mono fun e W' ⟨he, bel⟩ => ?_
  subst he
  exact ⟨_, rfl, _, _, _, [], _, [], hW', trodAll_mk1 (shut_bool Tryd.underlying4 _), (trodAll_cons_mk (Below.trod laidOut (by kernel_rfl) (of_decide_eq_true (by kernel_rfl)) k0 bel lt0) (trodAll_cons_mk (Below.trod laidOut (by kernel_rfl) (of_decide_eq_true (by kernel_rfl)) k1 bel lt1) (trodAll_cons_mk (Below.trod laidOut (by kernel_rfl) (of_decide_eq_true (by kernel_rfl)) k2 bel lt2) trodAll_mk0))), rfl, bel.frame _, fun h => by cases h⟩

theorem proved : Rows.SealSealsSaid :=
  OpenClaim.holds_of_wide 21 Tryd.f21 rfl rfl rfl rfl rfl rfl rfl ⟨rfl, rfl, rfl, rfl, rfl⟩ rfl rfl rfl rfl rfl (by kernel_rfl) Tryd.func21 (by kernel_rfl)
    (of_decide_eq_true (by kernel_rfl)) (by unfold Func.isWrapper; first | (rw [if_pos (by decide +kernel)]; kernel_rfl) | (rw [if_neg (by decide +kernel)]; exact ⟨rfl, rfl⟩))
    (fun os started H enc _ => lifted os started H enc)
end Go.Proofs.YtnoilogepkelaaaDoor.rowSealSeals
namespace Go.Proofs.YtnoilogepkelaaaDoor.cardSealSeals
open Go
theorem proved : Rows.SealSealsCardSaid :=
  Claim7.holds_tied_plain_at .later [] [.data, .data] true (true, "7a6ec62b16e8eff594300fbad7bbffdd2b98b027ed8fb16ef0f44a85b4f277cd") false
    rowSealSeals.proved (fun _ h => by cases h) (by kernel_rfl) (fun _ h => by cases h) sealSeals_row_tie rfl ⟨rfl, rfl⟩ (by kernel_rfl) rfl
    (fun f fn hf hfn => by
      obtain rfl : f = 21 := Option.some.inj ((show Tryd.prog.funcNamed "redwax/redwaxlaw11.SealSeals" = some 21 by kernel_rfl).symm.trans hf) |>.symm
      obtain rfl : fn = Tryd.f21 := (Option.some.inj (Tryd.func21.symm.trans hfn)).symm
      exact ⟨by kernel_rfl, fun j t ht => by
        rw [Tryd.params21] at ht
        rcases j with _ | _ | _ | j
        · obtain rfl : t = 32 := by simpa using ht.symm
          exact (show Tryd.prog.wantsStandIn 32 = false by kernel_rfl)
        · obtain rfl : t = 70 := by simpa using ht.symm
          exact (show Tryd.prog.wantsStandIn 70 = false by kernel_rfl)
        · obtain rfl : t = 22 := by simpa using ht.symm
          exact (show Tryd.prog.wantsStandIn 22 = false by kernel_rfl)
        · simp at ht⟩)
    (by kernel_rfl)
end Go.Proofs.YtnoilogepkelaaaDoor.cardSealSeals
