/-
  The law HmacApart: its helpers.
-/
import Derived.Test.YtnoilogepkelaaaDoorHmaE
import Derived.Test.YtnoilogepkelaaaDoorHmaD
import Derived.Test.YtnoilogepkelaaaDoorShaK
namespace Go.Proofs.YtnoilogepkelaaaDoor
set_option linter.unusedVariables false
set_option linter.unusedSimpArgs false
open Go Go.RowKit

theorem run_neq_hash {T n : Nat} (hT : Tryd.prog.underlying T = some (.array n 5)) (hG : Tryd.prog.eqGuardType Tryd.prog.depth T = false) (xs : List (BitVec 8)) (h : xs.length = n) (w : World) :
    (∀ x y, (eqGuard .neq T x y (.agg (bytes xs)) (.agg (bytes xs))).run Tryd.prog w = .ok () w) ∧ (binOp .neq T (.agg (bytes xs)) (.agg (bytes xs))).run Tryd.prog w = .ok (.bool false) w := by
  refine ⟨fun x y => run_eqGuard_agg w .neq T x y _ _ hG, ?_⟩
  have e : (Op.equal T (.agg (bytes xs)) (.agg (bytes xs))).run Tryd.prog w = .ok true w := run_eq_hash hT xs h w
  show ((do pure (.bool (!(← Op.equal T (.agg (bytes xs)) (.agg (bytes xs))))) : Sem Value)).run Tryd.prog w = _
  rw [Sem.run_bind, e]
  rfl

set_option maxRecDepth 100000 in
set_option maxHeartbeats 1000000 in
theorem lpiece_any (base : Nat) (xs text : List (BitVec 8)) (v u : Value) (w : World) (ho : OwnB 5 base w v xs) (hu : ∀ w', Below base w w' → SlB w' u text) (hl : text.length ≤ 50000000) (hl2 : xs.length ≤ 500000000) (hb : base ≤ w.heap.size) :
    Calls Tryd.prog 46 #[v, u] w (RetP base w (Hma.piece xs text)) := by
  have h0 := hu w (Below.refl _ _)
  obtain ⟨a, cap, rfl⟩ := h0.len
  have HO := Lib.hid ho
  have HT := Lib.hid (show Hma.piece xs text = (xs ++ Hma.len4 text.length) ++ text from rfl)
  have HL4 := Lib.hid (show Hma.len4 text.length = [BitVec.ofNat 8 (text.length / 16777216), BitVec.ofNat 8 (text.length / 65536), BitVec.ofNat 8 (text.length / 256), BitVec.ofNat 8 text.length] from rfl)
  have HU := Lib.hid hu
  obtain ⟨n, hn⟩ : ∃ n, text.length = n := ⟨_, rfl⟩
  have HN := Lib.hid hn
  rw [hn] at hl HT HL4 HU ⊢
  have HXL := Lib.hid hl2
  have h16 := bv_ofNat (n / 16777216)
  have h24 := bv_ofNat (n / 65536)
  have h32 := bv_ofNat (n / 256)
  have h40 := bv_ofNat n
  have H16 := Lib.hid (show (n : Int) / 16777216 % 256 = bv (BitVec.ofNat 8 (n / 16777216)) ∧ (n : Int) / 65536 % 256 = bv (BitVec.ofNat 8 (n / 65536)) ∧ (n : Int) / 256 % 256 = bv (BitVec.ofNat 8 (n / 256)) ∧ (n : Int) % 256 = bv (BitVec.ofNat 8 n) ∧ (n : Int) / 16777216 = bv (BitVec.ofNat 8 (n / 16777216)) by omega)
  clear ho hn hl2 h16 h24 h32 h40 hu h0
  generalize Hma.piece xs text = R at *
  go_enter Tryd.func46, Tryd.ntmps46
  go_wp2_with (first
    | (at_builtin; refine wpList_append_b rfl (.tmp 8) (.tmp 20) 22 5 rfl Tryd.underlying22 info_u8 base _ _ (HO.out.alloc _) rfl _ (Hma.len4 n) (by rw [HL4.out]; refine four_new _ _ _ _ _ _ _ _ _ ?_ ?_ ?_ ?_ <;> first | exact H16.out.1 | exact H16.out.2.1 | exact H16.out.2.2.1 | exact H16.out.2.2.2.1 | exact H16.out.2.2.2.2) rfl (by rw [HL4.out]; have := HXL.out; simp; omega) (by simp; omega) ?_; intro v2 w2 ho hg hn'; have HO2 := Lib.hid ho; have HB2 := Lib.hid (((Below.refl base w).alloc hb _).grown hg (by simp; omega) (fun k e => (World.ownsRow.lt HO.out k e).1)); have HZ2 := Lib.hid (show base ≤ w2.heap.size by have := hg.size; simp at this; omega); clear ho hg hn')
    | (at_builtin; refine wpList_append_b rfl (.tmp 22) (.tmp 23) 22 5 rfl Tryd.underlying22 info_u8 base _ _ HO2.out rfl _ text (by have h := HU.out _ HB2.out; exact h) rfl (by rw [HL4.out]; have := HXL.out; have := HN.out; simp; omega) HZ2.out ?_; intro v3 w3 ho hg hn'; have HO3 := Lib.hid ho; have HB3 := Lib.hid (HB2.out.grown hg HZ2.out (fun k e => (World.ownsRow.lt HO2.out k e).1)); clear ho hg hn'))
  rw [← HT.out] at HO3
  go_ret
  exact ⟨_, rfl, HO3.out, HB3.out⟩

theorem strB_take (xs : List (BitVec 8)) (k : Nat) : (strB xs).extract 0 k = strB (xs.take k) := by
  apply ByteArray.ext
  apply Array.toList_inj.1
  have hd : ∀ ys, (strB ys).data.toList = (ys.map bv).map (fun n => UInt8.ofNat n.toNat) := fun ys => strOfNums_data _
  rw [ByteArray.data_extract, Array.toList_extract, hd, hd]
  simp [List.extract, List.map_take]
end Go.Proofs.YtnoilogepkelaaaDoor
