/-
  slices.Chunk at slices of bytes, in blocks of 64: what its iterator hands over.
-/
import Derived.Test.YtnoilogepkelaaaDoorKept
import Derived.Test.YtnoilogepkelaaaDoorLibC
import Derived.RangeFuncNested
import Derived.RangeFuncBound
import Derived.RangeFuncCalls
import Derived.RangeFuncLeaves
import Derived.Shelf.Abstract
import Derived.Shelf.RegionOpen
import Derived.WalkKit
import Derived.OwnWalkIn
import Derived.TacticsInMore
import Derived.LoopNIn
import Derived.LoopIn
namespace Go.Proofs.YtnoilogepkelaaaDoor
set_option linter.unusedVariables false
set_option linter.unusedSimpArgs false
open Go Go.RowKit Go.Shelf
attribute [local go_sem] Oper.semAt_some

/-- The blocks of so many bytes. -/
abbrev Blk (n : Nat) := { k : Nat // 64 * k < n }
def chunkV (b off n k : Nat) : Value := .slice (some ⟨b, off + 64 * k, none⟩) (min 64 (n - 64 * k)) (min 64 (n - 64 * k))
/-- What lies in two blocks stays. -/
def KeepsTwo (b1 b2 : Nat) (W W' : World) : Prop := W'.heap[b1]? = W.heap[b1]? ∧ W'.heap[b2]? = W.heap[b2]?
theorem keepsTwo_t {b1 b2 : Nat} {A B C : World} (h : KeepsTwo b1 b2 A B) (k : KeepsTwo b1 b2 B C) : KeepsTwo b1 b2 A C := ⟨k.1.trans h.1, k.2.trans h.2⟩
theorem keepsTwo_b {b1 b2 : Nat} {w : World} (h1 : b1 < w.heap.size) (h2 : b2 < w.heap.size) (W : World) (l : Nat) (o o' : Obj) (hl : w.heap.size ≤ l) (h : W.heap[l]? = some o) (_ : o.isCells = false) (_ : o.isWalk = false) : KeepsTwo b1 b2 W (W.putObj l o') :=
  ⟨World.putObj_heap_other (by omega), World.putObj_heap_other (by omega)⟩
theorem KeepsTwo.cell1 {b1 b2 : Nat} {W W' : World} (h : KeepsTwo b1 b2 W W') (o : Nat) : W'.cell? ⟨b1, o, none⟩ = W.cell? ⟨b1, o, none⟩ := World.cell?_of_block (a := ⟨b1, o, none⟩) h.1
theorem KeepsTwo.cell2 {b1 b2 : Nat} {W W' : World} (h : KeepsTwo b1 b2 W W') (o : Nat) : W'.cell? ⟨b2, o, none⟩ = W.cell? ⟨b2, o, none⟩ := World.cell?_of_block (a := ⟨b2, o, none⟩) h.2

set_option maxRecDepth 100000 in
set_option maxHeartbeats 2000000 in
theorem chunk1_in (F : Fence) (n : Nat) (hF : F.fn 97) (hro : F.round = none) (hn : 1 ≤ n) (l Bs Bn b off len cap : Nat) (hlc : len ≤ cap) (hcap : len ≤ 1000000000) (J Jx : List (Blk len) → World → Prop)
    (W : World) (hJ : AbidesFrom W.heap.size J)
    (hY : ∀ pre (x : Blk len) W, J pre W → pre.length < len → YieldAt F (n - 1) Tryd.prog l #[chunkV b off len x.1] W fun e W' =>
      (e = .returned (.bool true) ∧ J (pre ++ [x]) W' ∧ KeepsTwo Bs Bn W W') ∨ (e = .returned (.bool false) ∧ Jx (pre ++ [x]) W'))
    (hBs : W.cell? ⟨Bs, 0, none⟩ = some (.slice (some ⟨b, off, none⟩) len cap)) (hBn : W.cell? ⟨Bn, 0, none⟩ = some (.int .i64 64)) (h0 : J [] W) :
    CallsIn F n Tryd.prog 97 #[.func (.yield l) #[] #[], .pointer (some ⟨Bs, 0, none⟩), .pointer (some ⟨Bn, 0, none⟩)] W fun e W' => (∃ v, e = .returned v) ∧
      ((∃ ys : List (Blk len), ys.map (·.1) = List.range ((len + 63) / 64) ∧ J ys W') ∨ (∃ pre, Jx pre W')) := by
  refine callsIn_of_wp Tryd.func97 rfl hF ?_ hro
  simp only [Tryd.ntmps97, List.size_toArray, List.length_cons, List.length_nil, Nat.reduceAdd, Nat.reduceSub, Array.replicate_succ, Array.replicate_zero, List.push_toArray, List.append_toArray, List.nil_append, List.cons_append]
  gi_wp2
  gi_loopw [4] (fun i wr => ∃ (k : Nat) (pre : List (Blk len)), i = .int .i64 ((64 * k : Nat) : Int) ∧ 64 * k < len + 64 ∧ Hid (pre.map (·.1) = List.range k) ∧ Hid (J pre wr) ∧ wr.cell? ⟨Bs, 0, none⟩ = some (.slice (some ⟨b, off, none⟩) len cap) ∧ wr.cell? ⟨Bn, 0, none⟩ = some (.int .i64 64))
    (fun i _ => len + 64 - (intOf i).toNat)
  case atStart => exact ⟨0, [], rfl, by omega, Lib.hid rfl, Lib.hid h0, hBs, hBn⟩
  case round =>
    clear hBs hBn h0
    obtain ⟨k, pre, rfl, hk, HP, HJ, hBs, hBn⟩ := hrel
    by_cases hlt : 64 * k < len
    · have hl : pre.length = k := by have := congrArg List.length HP.out; simpa using this
      obtain ⟨x, hx⟩ : ∃ x : Blk len, x.1 = k := ⟨⟨k, hlt⟩, rfl⟩
      have hp2 : (pre ++ [x]).map (·.1) = List.range (k + 1) := by rw [List.map_append, HP.out, List.range_succ, ← hx]; rfl
      have HP2 := Lib.hid hp2
      have hJd : J pre wr.drew := hJ pre wr wr.drew none HJ.out (grownBy_drew (World.grownBy.refl wr _)) (fun r e => by cases e)
      have hy0 := hY pre x wr.drew hJd (by omega)
      rw [hx] at hy0
      have hBs' : wr.drew.cell? ⟨Bs, 0, none⟩ = some (.slice (some ⟨b, off, none⟩) len cap) := hBs
      have hBn' : wr.drew.cell? ⟨Bn, 0, none⟩ = some (.int .i64 64) := hBn
      have HB := Lib.hid (And.intro hBs' hBn')
      clear hl HP hJd HJ hBs' hBn' hp2 hx
      have hcm : ¬ cap = 64 * k := by omega
      have hml : 64 * k ≤ len := by omega
      by_cases h64 : 64 ≤ len - 64 * k
      · have e1 : chunkV b off len k = .slice (some ⟨b, off + 64 * k, none⟩) 64 64 := by
          unfold chunkV
          rw [show min 64 (len - 64 * k) = 64 by omega]
        rw [e1] at hy0
        clear e1
        obtain ⟨fn, tmps, assign, body, hy, hR⟩ := hy0
        have HR := Lib.hid hR
        clear hR
        obtain ⟨m, hm⟩ : ∃ m : Nat, m = 64 * k := ⟨_, rfl⟩
        rw [← hm] at hk hcm hml hy ⊢
        have h64' : (64 : Int) ≤ ((len - m : Nat) : Int) := by omega
        have hmlt : m < len := by omega
        have HM := Lib.hid hm
        clear hm h64 hlt
        gi_wp2
        gi_region
        all_goals
          gi_wp2
          refine HR.out.mono ?_
          rintro e W3 (⟨rfl, hJ3, hk3⟩ | ⟨rfl, hJx3⟩)
          · have hBs3 := (hk3.cell1 0).trans HB.out.1
            have hBn3 := (hk3.cell2 0).trans HB.out.2
            have HJ3 := Lib.hid hJ3
            clear hJ3 hk3
            gi_wp2
            go_roundw
            case rel => exact ⟨k + 1, pre ++ [x], by rw [HM.out]; go_num, by have := HM.out; omega, HP2, HJ3, hBs3, hBn3⟩
            case measure => simp [intOf]; omega
          · gi_wp2
            refine bodyPost_ret (results_none rfl _ _ _) rfl ?_
            exact ⟨⟨_, rfl⟩, .inr ⟨_, hJx3⟩⟩
      · have e1 : chunkV b off len k = .slice (some ⟨b, off + 64 * k, none⟩) (len - 64 * k) (len - 64 * k) := by
          unfold chunkV
          rw [show min 64 (len - 64 * k) = len - 64 * k by omega]
        rw [e1] at hy0
        clear e1
        obtain ⟨fn, tmps, assign, body, hy, hR⟩ := hy0
        have HR := Lib.hid hR
        clear hR
        obtain ⟨m, hm⟩ : ∃ m : Nat, m = 64 * k := ⟨_, rfl⟩
        rw [← hm] at hk hcm hml hy ⊢
        have h64' : ¬ (64 : Int) ≤ ((len - m : Nat) : Int) := by omega
        have hmlt : m < len := by omega
        have HM := Lib.hid hm
        clear hm h64 hlt
        gi_wp2
        gi_region
        all_goals
          gi_wp2
          refine HR.out.mono ?_
          rintro e W3 (⟨rfl, hJ3, hk3⟩ | ⟨rfl, hJx3⟩)
          · have hBs3 := (hk3.cell1 0).trans HB.out.1
            have hBn3 := (hk3.cell2 0).trans HB.out.2
            have HJ3 := Lib.hid hJ3
            clear hJ3 hk3
            gi_wp2
            go_roundw
            case rel => exact ⟨k + 1, pre ++ [x], by rw [HM.out]; go_num, by have := HM.out; omega, HP2, HJ3, hBs3, hBn3⟩
            case measure => simp [intOf]; omega
          · gi_wp2
            refine bodyPost_ret (results_none rfl _ _ _) rfl ?_
            exact ⟨⟨_, rfl⟩, .inr ⟨_, hJx3⟩⟩
    · obtain rfl : k = (len + 63) / 64 := by omega
      have hge : ¬ 64 * ((len + 63) / 64) < len := by omega
      gi_wp2
      go_end0
      exact ⟨⟨_, rfl⟩, .inl ⟨pre, HP.out, HJ.out⟩⟩
end Go.Proofs.YtnoilogepkelaaaDoor
