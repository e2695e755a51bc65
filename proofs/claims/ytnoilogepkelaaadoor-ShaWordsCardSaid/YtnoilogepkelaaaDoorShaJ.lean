/-
  The law's helpers: word and awake.
-/
import Derived.Test.YtnoilogepkelaaaDoorShaI
import Derived.Test.YtnoilogepkelaaaDoorShaJ0
import Derived.Lib.ConvBytes
namespace Go.Proofs.YtnoilogepkelaaaDoor
set_option linter.unusedVariables false
set_option linter.unusedSimpArgs false
open Go Go.RowKit
set_option maxRecDepth 100000 in
theorem conv_str (xs : List (BitVec 8)) (hl : xs.length ≤ 1000000) (w : World) : ∃ cap w', (convert 9 22 (.string (strB xs))).run Tryd.prog w = .ok (.slice (some ⟨w.heap.size, 0, none⟩) xs.length cap) w' ∧ SlB w' (.slice (some ⟨w.heap.size, 0, none⟩) xs.length cap) xs ∧ Below w.heap.size w w' := by
  have hr := Lib.run_convert_string_bytes (P := Tryd.prog) w 9 22 5 (strB xs) Tryd.underlying9 Tryd.underlying22 Tryd.underlying5
  rw [strB_size] at hr
  refine ⟨_, _, hr, .inr ⟨w.heap.size, 0, _, rfl, grownCap_ge w _ 0 _, grownCap_le_maxLen w _ 0 _ (by unfold maxLen; omega), by rw [Lib.bytesWorld_size]; omega, fun j hj => ?_⟩, ⟨rfl, rfl, rfl, by rw [Lib.bytesWorld_size]; omega, fun k hk => Lib.bytesWorld_at_old w _ _ k hk⟩⟩
  rw [Nat.zero_add, Lib.bytesWorld_cell w _ _ j (by rw [strB_size]; exact hj)]
  have hd : (strB xs).data.toList = (xs.map bv).map (fun n => UInt8.ofNat n.toNat) := strOfNums_data _
  rw [hd, List.map_map, List.getD, List.getElem?_map, List.getElem?_eq_getElem hj]
  simp only [Option.map_some, Option.getD_some, List.getD, List.getElem?_eq_getElem hj, byteV, bv, Function.comp, Int.toNat_natCast]
  have := (xs[j]).isLt
  congr 2
  simp only [UInt8.toNat_ofNat']
  omega

set_option maxRecDepth 100000 in
theorem word_any (xs : List (BitVec 8)) (hl : xs.length ≤ 1000000) (w : World) (hG : Glob w) :
    Calls Tryd.prog 39 #[.string (strB xs)] w fun e w' => e = .returned (.string (strB (Sha.text (Sha.sum xs)))) ∧ Below w.heap.size w w' := by
  obtain ⟨cap, W, hc, hsl, hb⟩ := conv_str xs hl w
  have HSM := Lib.hid (sum_any xs _ W hsl (by omega) (hG.below hb hG.size))
  have HTX := Lib.hid (fun w2 => text_any (Sha.sum xs) (Sha.sum_length xs) w2)
  have HB := Lib.hid hb
  generalize strB xs = S at hc ⊢
  clear hsl hb hG
  go_enter Tryd.func39, Tryd.ntmps39
  go_wp2_with (first
    | (go_at_call 27; refine HSM.out.mono ?_; rintro e w2 ⟨rfl, hb2⟩; have HB2 := Lib.hid (HB.out.trans (hb2.mono HB.out.size)); clear hb2)
    | (go_at_call 36; refine (HTX.out _).mono ?_; rintro e w3 ⟨rfl, hb3⟩; have HB3 := Lib.hid (HB2.out.trans (hb3.mono HB2.out.size)); clear hb3))
  go_ret
  exact ⟨rfl, HB3.out⟩

theorem strB_abc : (.string { data := #[97, 98, 99] } : Value) = .string (strB [97, 98, 99]) := by kernel_rfl
theorem word_abc : (.string { data := #[98, 97, 55, 56, 49, 54, 98, 102, 56, 102, 48, 49, 99, 102, 101, 97, 52, 49, 52, 49, 52, 48, 100, 101, 53, 100, 97, 101, 50, 50, 50, 51, 98, 48, 48, 51, 54, 49, 97, 51, 57, 54, 49, 55, 55, 97, 57, 99, 98, 52, 49, 48, 102, 102, 54, 49, 102, 50, 48, 48, 49, 53, 97, 100] } : Value) = .string (strB (Sha.text (Sha.sum [97, 98, 99]))) := by
  rw [sum_abc]
  kernel_rfl

set_option maxRecDepth 100000 in
theorem awake_any (w : World) (hG : Glob w) : Calls Tryd.prog 23 #[] w fun e w' => e = .returned (.bool true) ∧ Below w.heap.size w w' := by
  have HWD := Lib.hid (word_any [97, 98, 99] (by simp) w hG)
  have HWE := Lib.hid word_abc
  rw [← strB_abc] at HWD
  have HST := Lib.hid (fun W (hB : Below w.heap.size w W) => start_any W (hG.below hB hG.size))
  have HBH := Lib.hid (fun W => behind_any 55 (by omega) W)
  have hbl : (Sha.behind 55).length = 9 := by rw [Sha.behind_length]; rfl
  have hix := fun (W : World) => run_index_row (P := Tryd.prog) (T := 27) (E := 25) Tryd.underlying27 Tryd.underlying25 rfl (by kernel_rfl) (words Sha.starts) (by kernel_rfl) 0 (by omega) (by omega) W
  have hs0 : (words Sha.starts)[0]?.getD undef = .int .u32 1779033703 := by kernel_rfl
  clear hG
  obtain ⟨Z, hZ⟩ : ∃ Z, Sha.text (Sha.sum [97, 98, 99]) = Z := ⟨_, rfl⟩
  rw [hZ] at HWD HWE
  go_enter Tryd.func23, Tryd.ntmps23
  go_wp2_with (first
    | (go_at_call 39; refine HWD.out.mono ?_; rintro e w1 ⟨rfl, hb1⟩; rw [← HWE.out]; have HB1 := Lib.hid hb1; clear hb1)
    | (go_at_call 25; refine (HST.out _ HB1.out).mono ?_; rintro e w2 ⟨rfl, hb2⟩; have HB2 := Lib.hid (HB1.out.trans (hb2.mono HB1.out.size)); clear hb2)
    | (go_at_call 24; refine (HBH.out _).mono ?_; rintro e w3 ⟨v3, rfl, ho3, hb3⟩; obtain ⟨a3, cap3, rfl⟩ := ho3.sl.len; have HB3 := Lib.hid (HB2.out.trans (hb3.mono HB2.out.size)); clear hb3 ho3; rw [hbl]))
  go_ret
  exact ⟨rfl, HB3.out⟩
end Go.Proofs.YtnoilogepkelaaaDoor
