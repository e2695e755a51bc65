/-
  The law ChachaQuarter's walk: a quarter round goes back.
-/
import Derived.Test.YtnoilogepkelaaaChaQ
import Derived.Test.YtnoilogepkelaaaRow
namespace Go.Proofs.Ytnoilogepkelaaa
set_option linter.unusedVariables false
set_option linter.unusedSimpArgs false
open Go Go.RowKit
attribute [local go_sem] u32_add u32_sub u32_xor u32_or u32_and' u32_shl u32_shr

theorem right_any (x : BitVec 32) (k : Int) (h0 : 0 < k) (h1 : k < 32) (w : World) :
    Calls Try.prog 9 #[.int .u32 (wv x), .int .i64 k] w fun e w' => e = .returned (.int .u32 (wv (x.rotateLeft (32 - k.toNat)))) ∧ w = w' := by
  obtain ⟨n, rfl⟩ : ∃ n : Nat, k = n := ⟨k.toNat, by omega⟩
  have he := rot_eq x (32 - n) (by omega)
  have HE : Hid (x.rotateLeft (32 - n) = (x <<< (32 - n)) ||| (x >>> (32 - (32 - n)))) := he
  clear he
  go_enter Try.func9, Try.ntmps9
  go_wp2
  go_ret
  refine ⟨ret_int ?_, rfl⟩
  rw [Int.toNat_natCast, HE.out, BitVec.or_comm, show 32 - (32 - n) = n from by omega]

theorem run_eq4 (a b c d : BitVec 32) (w : World) :
    (Op.equalIn 10000 23 (.agg #[.int .u32 (wv a), .int .u32 (wv b), .int .u32 (wv c), .int .u32 (wv d)]) (.agg #[.int .u32 (wv a), .int .u32 (wv b), .int .u32 (wv c), .int .u32 (wv d)])).run Try.prog w = .ok true w := by
  have h := run_equalIn_ints (P := Try.prog) (T := 23) (E := 22) (n := 4) (k := .u32) Try.underlying23 Try.underlying22 (by kernel_rfl) [wv a, wv b, wv c, wv d] [wv a, wv b, wv c, wv d] rfl rfl w
  simpa [ints] using h

theorem awake_any (w : World) : Calls Try.prog 10 #[] w fun e w' => e = .returned (.bool true) ∧ Below w.heap.size w w' := by
  have hq : ∀ w, Calls Try.prog 8 #[.agg #[.int .u32 286331153, .int .u32 16909060, .int .u32 2609737539, .int .u32 19088743]] w
      fun e w' => e = .returned (.agg #[.int .u32 3928658676, .int .u32 3407673550, .int .u32 1166100270, .int .u32 1484899515]) ∧ Below w.heap.size w w' := by
    intro w
    have h := quarter_any ⟨0x11111111#32, 0x01020304#32, 0x9b8d6f43#32, 0x01234567#32⟩ w
    have e1 : aggQ ⟨0x11111111#32, 0x01020304#32, 0x9b8d6f43#32, 0x01234567#32⟩ = .agg #[.int .u32 286331153, .int .u32 16909060, .int .u32 2609737539, .int .u32 19088743] := by kernel_rfl
    have e2 : aggQ (Cha.quarter ⟨0x11111111#32, 0x01020304#32, 0x9b8d6f43#32, 0x01234567#32⟩) = .agg #[.int .u32 3928658676, .int .u32 3407673550, .int .u32 1166100270, .int .u32 1484899515] := by kernel_rfl
    rw [e1, e2] at h
    exact h
  have HQ := Lib.hid hq
  clear hq
  have heq : ∀ w, (Op.equalIn 10000 23 (.agg #[.int .u32 3928658676, .int .u32 3407673550, .int .u32 1166100270, .int .u32 1484899515]) (.agg #[.int .u32 3928658676, .int .u32 3407673550, .int .u32 1166100270, .int .u32 1484899515])).run Try.prog w = .ok true w := fun w =>
    run_eq4 0xea2a92f4#32 0xcb1cf8ce#32 0x4581472e#32 0x5881c4bb#32 w
  go_enter Try.func10, Try.ntmps10
  go_wp2_with fail
  refine (HQ.out _).mono ?_
  rintro e w' ⟨rfl, hb⟩
  go_wp2
  go_ret
  refine ⟨rfl, ?_⟩
  repeat (first | with_reducible exact Below.refl _ _ | with_reducible assumption | with_reducible refine Below.drewN ?_ _ | with_reducible refine Below.alloc ?_ (by have := hb.size; simp at this ⊢ <;> omega) _ | with_reducible refine Below.setCell ?_ (by have := hb.size; simp at this ⊢ <;> omega) _)

theorem law_quarter (a b c d : BitVec 32) (w : World) :
    Calls Try.prog 3 #[.agg #[.int .u32 (wv a), .int .u32 (wv b), .int .u32 (wv c), .int .u32 (wv d)]] w fun e w' => e = .returned (.bool true) ∧ Below w.heap.size w w' := by
  have hq := Lib.hid (quarter_any ⟨a, b, c, d⟩)
  have hback := Cha.back_quarter ⟨a, b, c, d⟩
  generalize Cha.quarter ⟨a, b, c, d⟩ = q at hq hback
  obtain ⟨a', b', c', d'⟩ := q
  simp only [Cha.back, Cha.Q.mk.injEq] at hback
  obtain ⟨ha, hb, hc, hd⟩ := hback
  rw [hb] at ha
  have heq := run_eq4 a b c d
  go_enter Try.func3, Try.ntmps3
  go_wp2_with fail
  refine (hq.out _).mono ?_
  unfold aggQ
  rintro e w1 ⟨rfl, hb1⟩
  have hz : w.heap.size < w1.heap.size := by have := hb1.size; simp at this; omega
  have hp := (hb1.block w.heap.size (by simp)).trans (heap_alloc_new w _)
  have c0 : w1.cell? ⟨w.heap.size, 0, none⟩ = some (.int .u32 (wv a)) := cell_of_row w1 w.heap.size 0 _ _ _ hp
  have c1 : w1.cell? ⟨w.heap.size, 1, none⟩ = some (.int .u32 (wv b)) := cell_of_row w1 w.heap.size 1 _ _ _ hp
  have c2 : w1.cell? ⟨w.heap.size, 2, none⟩ = some (.int .u32 (wv c)) := cell_of_row w1 w.heap.size 2 _ _ _ hp
  have c3 : w1.cell? ⟨w.heap.size, 3, none⟩ = some (.int .u32 (wv d)) := cell_of_row w1 w.heap.size 3 _ _ _ hp
  clear hp
  go_wp2
  go_quiet (fail)
  go_wp2_with (go_at_call 9; refine (right_any _ _ (by omega) (by omega) _).mono ?_; rintro e w' ⟨rfl, rfl⟩)
  refine (awake_any _).mono ?_
  rintro e w2 ⟨rfl, hb2⟩
  go_wp2
  go_ret
  refine ⟨rfl, ?_⟩
  have h2 := hb2.size
  simp at h2
  refine Below.trans (b := w1) ?_ ?_
  · exact (((Below.refl _ w).alloc (Nat.le_refl _) _).trans (hb1.mono (by simp)))
  · refine Below.trans ?_ (hb2.mono (by simp; omega))
    repeat (first | with_reducible exact Below.refl _ _ | with_reducible refine Below.drewN ?_ _ | with_reducible refine Below.alloc ?_ (by omega) _)

theorem law_chachaQuarter (x : List (BitVec 32)) (h : x.length = 4) (w : World) :
    Calls Try.prog 3 #[.agg (words x)] w fun e w' => e = .returned (.bool true) ∧ Below w.heap.size w w' := by
  match x, h with
  | [a, b, c, d], _ => exact law_quarter a b c d w
end Go.Proofs.Ytnoilogepkelaaa
