/-
  The library's slices.Clone at slices of bytes.
-/
import Derived.Test.YtdnjjemdnlegdaaChecked
import Derived.Test.YtdnjjemdnlegdaaSl
import Derived.WalkSpells
namespace Go.Proofs.Ytdnjjemdnlegdaa
set_option linter.unusedVariables false
set_option linter.unusedSimpArgs false
open Go Go.RowKit

/-- A slice of the call's own comes back; nothing old is changed. -/
def RetB (w : World) (xs : List (BitVec 8)) (e : Ending) (w' : World) : Prop :=
  ∃ v', e = .returned v' ∧ OwnB 5 w.heap.size w' v' xs ∧ Below w.heap.size w w'

theorem info_u8 : (Try.prog.info? 5).map (fun i => (i.zero, i.size, i.bytes)) = some (some (.int .u8 0), 1, 1) := by kernel_rfl

theorem clone_any (v : Value) (xs : List (BitVec 8)) (w : World) (h : SlB w v xs) (hl : xs.length ≤ 500000000) :
    Calls Try.prog 48 #[v] w (RetB w xs) := by
  rcases h with ⟨⟨_ | ad, rfl⟩, rfl⟩ | ⟨b, off, cap, rfl, h1, h2, h3, h4⟩
  · have hn := fun w => Lib.run_eql_slice_nil (P := Try.prog) w 22 5 none 0 0 0 0 Try.underlying22
    go_enter Try.func48, Try.ntmps48
    go_wp2
    go_ret
    exact ⟨_, rfl, OwnB.nil _ _ _, Below.refl _ _⟩
  · have hn := fun w => Lib.run_eql_slice_nil (P := Try.prog) w 22 5 (some ad) 0 0 0 0 Try.underlying22
    have hs : SlB w (.slice (some ad) 0 0) [] := .inl ⟨⟨_, rfl⟩, rfl⟩
    go_enter Try.func48, Try.ntmps48
    go_wp2_with (at_builtin; refine wpList_append_b rfl (.tmp 5) (.tmp 6) 22 5 rfl Try.underlying22 info_u8 w.heap.size (.slice (some ⟨w.heap.size, 0, none⟩) 0 0) [] (World.ownsRow_made w #[] 0 (Nat.le_refl _) (by decide) rfl) rfl _ [] (hs.alloc _) rfl (by simp) (by simp) ?_; intro v' w' ho hg hn')
    go_ret
    exact ⟨_, rfl, ho, ((Below.refl _ w).alloc (Nat.le_refl _) _).grown hg (by simp) (by simp [Value.ownBlock])⟩
  · have hn := fun w => Lib.run_eql_slice_nil (P := Try.prog) w 22 5 (some ⟨b, off, none⟩) xs.length cap 0 0 Try.underlying22
    have hs : SlB w (.slice (some ⟨b, off, none⟩) xs.length cap) xs := .inr ⟨b, off, cap, rfl, h1, h2, h3, h4⟩
    clear h4
    go_enter Try.func48, Try.ntmps48
    go_wp2_with (at_builtin; refine wpList_append_b rfl (.tmp 5) (.tmp 6) 22 5 rfl Try.underlying22 info_u8 w.heap.size (.slice (some ⟨w.heap.size, 0, none⟩) 0 0) [] (World.ownsRow_made w #[] 0 (Nat.le_refl _) (by decide) rfl) rfl _ xs (hs.alloc _) rfl (by simp; omega) (by simp) ?_; intro v' w' ho hg hn')
    go_ret
    exact ⟨_, rfl, ho, ((Below.refl _ w).alloc (Nat.le_refl _) _).grown hg (by simp) (by simp [Value.ownBlock])⟩

end Go.Proofs.Ytdnjjemdnlegdaa
