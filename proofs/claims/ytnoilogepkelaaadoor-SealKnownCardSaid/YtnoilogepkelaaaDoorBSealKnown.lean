/-
  The tied card of SealKnown.
-/
import Derived.Test.YtnoilogepkelaaaDoorBSea
import Derived.Test.YtnoilogepkelaaaDoorRows
import Derived.Test.YtnoilogepkelaaaDoorBBase
import Derived.Test.YtnoilogepkelaaaDoorBSha
import Derived.Test.YtnoilogepkelaaaDoorTie
import Derived.Test.YtnoilogepkelaaaDoorCards
import Derived.SevenTiedAt
namespace Go.Proofs.YtnoilogepkelaaaDoor
set_option linter.unusedVariables false
set_option linter.unusedSimpArgs false
open Go Go.RowKit

/-- So many noughts, made: hidden. -/
theorem made_hid (n : Nat) (hn : n ≤ 1000000) : ∃ (z : List (BitVec 8)) (Z : Array Value), z.length = n ∧
    (∀ W : World, (Instr.makeSlice 22 (.int .i64 (n : Int)) (.int .i64 (n : Int))).run Tryd.prog W = .ok (.slice (some ⟨W.heap.size, 0, none⟩) n n) (W.alloc (.cells Z 5))) ∧
    (∀ W : World, SlB (W.alloc (.cells Z 5)) (.slice (some ⟨W.heap.size, 0, none⟩) n n) z) := by
  refine ⟨List.replicate n 0, bytes (List.replicate n 0), by simp, fun W => made_bytes n hn W, fun W => ?_⟩
  have h := (OwnB.made (E := 5) (base := 0) W (List.replicate n 0) (Nat.zero_le _) (by unfold maxLen; simp; omega)).sl
  rwa [List.length_replicate] at h
def key0 : List (BitVec 8) := List.replicate 32 0

set_option maxRecDepth 100000 in
set_option maxHeartbeats 4000000 in
theorem law_sealKnown (w : World) (hG : Glob w) : Calls Tryd.prog 18 #[] w fun e w' => e = .returned (.bool true) ∧ Below w.heap.size w w' := by
  have hgz := hG.size
  have HAW := Lib.hid (fun W (hB : Below w.heap.size w W) => sawake_any W (hG.below hB hgz))
  have HB0 := Lib.hid (show ∀ W, Calls Tryd.prog 49 #[.int .i64 0] W fun e w' => e = .returned (.int .i64 64) ∧ W = w' from fun W => by have h := bucket_nat 0 (by omega) W; rwa [show ((Sea.bucket 0 : Nat) : Int) = 64 by decide] at h)
  have HB1 := Lib.hid (show ∀ W, Calls Tryd.prog 49 #[.int .i64 60] W fun e w' => e = .returned (.int .i64 64) ∧ W = w' from fun W => by have h := bucket_nat 60 (by omega) W; rwa [show ((Sea.bucket 60 : Nat) : Int) = 64 by decide] at h)
  have HB2 := Lib.hid (show ∀ W, Calls Tryd.prog 49 #[.int .i64 61] W fun e w' => e = .returned (.int .i64 128) ∧ W = w' from fun W => by have h := bucket_nat 61 (by omega) W; rwa [show ((Sea.bucket 61 : Nat) : Int) = 128 by decide] at h)
  have HB3 := Lib.hid (show ∀ W, Calls Tryd.prog 49 #[.int .i64 131068] W fun e w' => e = .returned (.int .i64 131072) ∧ W = w' from fun W => by have h := bucket_nat 131068 (by omega) W; rwa [show ((Sea.bucket 131068 : Nat) : Int) = 131072 by decide] at h)
  have HB4 := Lib.hid (show ∀ W, Calls Tryd.prog 49 #[.int .i64 131069] W fun e w' => e = .returned (.int .i64 0) ∧ W = w' from fun W => by have h := bucket_nat 131069 (by omega) W; rwa [show ((Sea.bucket 131069 : Nat) : Int) = 0 by decide] at h)
  have HB5 := Lib.hid (fun W => bucket_neg (-1) (by omega) W)
  have HM := Lib.hid (fun W => most_any W)
  have HHE := Lib.hid (fun W => here_any W)
  obtain ⟨z1, Z1, hz1, km1, hs1⟩ := made_hid 131069 (by omega)
  obtain ⟨z2, Z2, hz2, km2, hs2⟩ := made_hid 131068 (by omega)
  rw [show ((131069 : Nat) : Int) = 131069 from rfl] at km1
  rw [show ((131068 : Nat) : Int) = 131068 from rfl] at km2
  have HS1 := Lib.hid hs1
  have HS2 := Lib.hid hs2
  have hk0 : key0.length = 32 := by simp [key0]
  have HSL := Lib.hid (fun u v W (hv : SlB W v z1) => seal_long key0 hereB z1 u v 7 3 W hv (by omega))
  have HSE := Lib.hid (fun u v W (hu : SlB W u hereB) (hv : SlB W v z2) (hB : Below w.heap.size w W) => seal_ok key0 hereB hk0 (by simp [hereB]) u 7 3 (by omega) (by omega) z2 v W hv hu (by omega) (hG.below hB hgz))
  have hl := Sea.seal_length key0 hereB 7 3 z2 (by omega)
  rw [hz2, show Sea.bucket 131068 = 131072 by decide] at hl
  have HOP := Lib.hid (fun u v W (hu : SlB W u hereB) (hv : SlB W v (Sea.seal_ key0 hereB 7 3 z2)) (hB : Below w.heap.size w W) => open_yes (Sea.open_seal key0 hereB 7 3 z2 (by omega) (by omega)) hk0 (by simp [hereB]) u 3 (by omega) v W hv hu (by omega) (hG.below hB hgz))
  have HON := Lib.hid (fun u W => open_short (bytes key0) #[u, .int .u64 7, .int .u32 3] (.slice none 0 0) [] W (SlB.nil W) (by simp) (.inl (by simp)))
  have HL := Lib.hid (show (Sea.seal_ key0 hereB 7 3 z2).length = 131108 by omega)
  obtain ⟨S, hS⟩ : ∃ S, Sea.seal_ key0 hereB 7 3 z2 = S := ⟨_, rfl⟩
  rw [hS] at HL
  simp only [hS] at HSE HOP
  rw [show bytes key0 = #[.int .u8 0, .int .u8 0, .int .u8 0, .int .u8 0, .int .u8 0, .int .u8 0, .int .u8 0, .int .u8 0, .int .u8 0, .int .u8 0, .int .u8 0, .int .u8 0, .int .u8 0, .int .u8 0, .int .u8 0, .int .u8 0, .int .u8 0, .int .u8 0, .int .u8 0, .int .u8 0, .int .u8 0, .int .u8 0, .int .u8 0, .int .u8 0, .int .u8 0, .int .u8 0, .int .u8 0, .int .u8 0, .int .u8 0, .int .u8 0, .int .u8 0, .int .u8 0] from rfl] at HSL HSE HOP HON
  simp only [show ((7 : Nat) : Int) = 7 from rfl, show ((3 : Nat) : Int) = 3 from rfl] at HSE HOP HSL
  clear hG hS hz1 hz2 hs1 hs2 hk0 hl
  go_enter Tryd.func18, Tryd.ntmps18
  go_upto_region 3 with (first
    | (go_at_call 52; (with_reducible refine Calls.mono (HAW.out _ (Below.refl _ w)) ?_); rintro e w1 ⟨rfl, hb⟩; have HW1 := Lib.hid hb; clear hb)
    | (go_at_call 49; (with_reducible refine Calls.mono (HB0.out _) ?_); rintro e w' ⟨rfl, rfl⟩)
    | (go_at_call 49; (with_reducible refine Calls.mono (HB1.out _) ?_); rintro e w' ⟨rfl, rfl⟩)
    | (go_at_call 49; (with_reducible refine Calls.mono (HB2.out _) ?_); rintro e w' ⟨rfl, rfl⟩)
    | (go_at_call 49; (with_reducible refine Calls.mono (HB3.out _) ?_); rintro e w' ⟨rfl, rfl⟩)
    | (go_at_call 49; (with_reducible refine Calls.mono (HB4.out _) ?_); rintro e w' ⟨rfl, rfl⟩)
    | (go_at_call 49; (with_reducible refine Calls.mono (HB5.out _) ?_); rintro e w' ⟨rfl, rfl⟩))
  go_upto_region 4 with (first
    | (go_at_call 54; (with_reducible refine Calls.mono (HHE.out _) ?_); rintro e w3 ⟨a3, c3, rfl, hs, hb⟩; have HW3 := Lib.hid (HW1.out.trans (hb.mono HW1.out.size)); clear hs hb)
    | (go_at_call 51; (with_reducible refine Calls.mono (HM.out _) ?_); rintro e w' ⟨rfl, rfl⟩)
    | (go_at_call 53; (with_reducible refine Calls.mono (HSL.out _ _ _ (HS1.out _)) ?_); rintro e w4 ⟨rfl, hb⟩; have HW4 := Lib.hid ((HW3.out.alloc HW3.out.size _).trans (hb.mono (by have := HW3.out.size; simp; omega))); clear hb))
  go_upto_region 5 with (first
    | (go_at_call 54; (with_reducible refine Calls.mono (HHE.out _) ?_); rintro e w5 ⟨a5, c5, rfl, hs, hb⟩; have HE5 := Lib.hid hs; have HW5 := Lib.hid (HW4.out.trans (hb.mono HW4.out.size)); clear hs hb)
    | (go_at_call 51; (with_reducible refine Calls.mono (HM.out _) ?_); rintro e w' ⟨rfl, rfl⟩)
    | (go_at_call 53; (with_reducible refine Calls.mono (HSE.out _ _ _ (HE5.out.alloc _) (HS2.out _) (HW5.out.alloc HW5.out.size _)) ?_); rintro e w6 ⟨v6, rfl, ho, hb⟩; obtain ⟨a6, c6, rfl⟩ := ho.sl.len; have HO6 := Lib.hid ho.sl; have HW6 := Lib.hid ((HW5.out.alloc HW5.out.size _).trans (hb.mono (by have := HW5.out.size; simp; omega))); clear ho hb))
  rw [HL.out]
  go_upto_region 6 with (first
    | (go_at_call 54; (with_reducible refine Calls.mono (HHE.out _) ?_); rintro e w7 ⟨a7, c7, rfl, hs, hb⟩; have HE7 := Lib.hid hs; have HO7 := Lib.hid (HO6.out.below hb (Nat.le_refl _)); have HW7 := Lib.hid (HW6.out.trans (hb.mono HW6.out.size)); clear hs hb)
    | (go_at_call 55; rw [← HL.out]; (with_reducible refine Calls.mono (HOP.out _ _ _ HE7.out HO7.out HW7.out) ?_); rw [HL.out]; rintro e w8 ⟨v8, rfl, ho, hb⟩; have HW8 := Lib.hid (HW7.out.trans (hb.mono HW7.out.size)); clear ho hb))
  go_wp2_with (first
    | (go_at_call 54; (with_reducible refine Calls.mono (HHE.out _) ?_); rintro e w9 ⟨a9, c9, rfl, hs, hb⟩; have HW9 := Lib.hid (HW8.out.trans (hb.mono HW8.out.size)); clear hs hb)
    | (go_at_call 55; (with_reducible refine Calls.mono (HON.out _ _) ?_); rintro e w10 ⟨rfl, hb⟩; have HW10 := Lib.hid (HW9.out.trans (hb.mono HW9.out.size)); clear hb))
  go_ret
  exact ⟨rfl, HW10.out⟩
end Go.Proofs.YtnoilogepkelaaaDoor
namespace Go.Proofs.YtnoilogepkelaaaDoor.rowSealKnown
open Go.ChangeShapes Go.WideShapes Go.ChangeAt Go.RowKit
open Go.ChangeMaps (open_string)
set_option linter.unusedVariables false
set_option linter.unusedSimpArgs false

theorem own : ownKnob Tryd.prog.godebug = none := by kernel_rfl
theorem laidOut : laidOutB Tryd.prog = true := by kernel_rfl

set_option maxRecDepth 100000 in
theorem lifted (os : Os) (started : os.Started) (H : Type) (enc : TypeId × Value → H) :
    ReturnsInHanded {} Tryd.checked os 18 .any (fun w args => (Rows.sealKnownSpec.pre enc Tryd.prog Tryd.f18 [] false w args ∧ laidMet Tryd.prog Ls w) ∧ sizedMet enc Tryd.prog Tryd.f18 (OpenSpec.ofChange Rows.sealKnownSpec) false w args)
      (Rows.sealKnownSpec.post enc Tryd.prog Tryd.f18 false true false false) := by
  refine returnsInHanded_of_change_and (C := Tryd.checked) (X := fun w _ => laidMet Tryd.prog Ls w) (fun _ _ _ hh h => h.of_heap hh) own started (by kernel_rfl) Tryd.func18
    (ChangeSpec.witness_at (enc := enc) (C := Tryd.checked) (os := os) (X := fun w _ => laidMet Tryd.prog Ls w) false (laidWorld os) #[] 8 rfl (by kernel_rfl) (by kernel_rfl) (by kernel_rfl) (by kernel_rfl) (by kernel_rfl) (laid_world os _)) ?_
  intro W base args ds gs before hval0 hW _ _ hL _
  have hval : ∀ (j : Nat) t v, Tryd.f18.params[j]? = some t → args[j]? = some v → Value.okWide Tryd.prog W .any base t v := hval0
  have hW' := hW
  obtain ⟨p, q, hA0, hV, rfl, hfz, hnd⟩ := hW
  have hA : DataW.TrodAll enc Tryd.prog W 0 (fun _ => true) true Tryd.f18.params.toList args.toList ds p := hA0
  rw [Tryd.params18] at hA hval
  obtain ⟨hargs, rfl, rfl⟩ := trodAll_nil hA
  obtain rfl : args = #[] := by cases args; simp_all
  obtain ⟨rfl, rfl⟩ := trodVars_none hV
  clear hA0 hval0
  refine (law_sealKnown _  (glob_of_vars (vars_of_laid hL))).mono fun e W' ⟨he, bel⟩ => ?_
  subst he
  exact ⟨_, rfl, _, _, _, [], _, [], hW', trodAll_mk1 (shut_bool Tryd.underlying4 _), trodAll_mk0, rfl, bel.frame _, fun h => by cases h⟩

theorem proved : Rows.SealKnownSaid :=
  OpenClaim.holds_of_wide 18 Tryd.f18 rfl rfl rfl rfl rfl rfl rfl ⟨rfl, rfl, rfl, rfl, rfl⟩ rfl rfl rfl rfl rfl (by kernel_rfl) Tryd.func18 (by kernel_rfl)
    (of_decide_eq_true (by kernel_rfl)) (by unfold Func.isWrapper; first | (rw [if_pos (by decide +kernel)]; kernel_rfl) | (rw [if_neg (by decide +kernel)]; exact ⟨rfl, rfl⟩))
    (fun os started H enc _ => lifted os started H enc)
end Go.Proofs.YtnoilogepkelaaaDoor.rowSealKnown
namespace Go.Proofs.YtnoilogepkelaaaDoor.cardSealKnown
open Go
theorem proved : Rows.SealKnownCardSaid :=
  Claim7.holds_tied_plain_at .later [] [.data, .data] true (true, "7a6ec62b16e8eff594300fbad7bbffdd2b98b027ed8fb16ef0f44a85b4f277cd") false
    rowSealKnown.proved (fun _ h => by cases h) (by kernel_rfl) (fun _ h => by cases h) sealKnown_row_tie rfl ⟨rfl, rfl⟩ (by kernel_rfl) rfl
    (fun f fn hf hfn => by
      obtain rfl : f = 18 := Option.some.inj ((show Tryd.prog.funcNamed "redwax/redwaxlaw11.SealKnown" = some 18 by kernel_rfl).symm.trans hf) |>.symm
      obtain rfl : fn = Tryd.f18 := (Option.some.inj (Tryd.func18.symm.trans hfn)).symm
      exact ⟨by kernel_rfl, fun j t ht => by
        rw [Tryd.params18] at ht
        simp at ht⟩)
    (by kernel_rfl)
end Go.Proofs.YtnoilogepkelaaaDoor.cardSealKnown
