/-
  The disk's calls Cut and Copy.
-/
import Derived.Test.YtdnjjemdnlegdaaDk3
import Derived.Deep.RegionHeld3
import Derived.Deep.MidRow
namespace Go.Proofs.Ytdnjjemdnlegdaa
set_option linter.unusedVariables false
set_option linter.unusedSimpArgs false
open Go Go.RowKit

/-- Cells stored one behind the other into a block known whole. -/
theorem heap_setCells (b : Nat) (t : TypeId) : ∀ (vs : List Value) (o : Nat) (pre mid post : List Value) (w : World), mid.length = vs.length → pre.length = o → w.heap[b]? = some (.cells (pre ++ (mid ++ post)).toArray t (0, 0)) →
    (w.setCells b o vs).heap[b]? = some (.cells (pre ++ (vs ++ post)).toArray t (0, 0))
  | [], o, pre, mid, post, w, hm, ho, h => by
    obtain rfl : mid = [] := List.eq_nil_of_length_eq_zero (by simpa using hm)
    exact h
  | v :: vs, o, pre, [], post, w, hm, ho, h => by simp at hm
  | v :: vs, o, pre, m :: mid, post, w, hm, ho, h => by
    have h1 := heap_setCell_same w b o _ _ v h
    have e : (pre ++ (m :: mid ++ post)).toArray.setIfInBounds o v = ((pre ++ [v]) ++ (mid ++ post)).toArray := by
      subst ho
      simp
    rw [e] at h1
    have := heap_setCells b t vs (o + 1) (pre ++ [v]) mid post _ (by simpa using hm) (by simp [ho]) h1
    simpa [World.setCells] using this
theorem Kept.setCells {l : List Nat} {w : World} {b : Nat} (hb : b ∈ l) : ∀ (vs : List Value) (o : Nat) (w' : World), Kept l w w' → Kept l w (w'.setCells b o vs)
  | [], _, _, h => h
  | v :: vs, o, w', h => Kept.setCells hb vs (o + 1) _ (h.setCell hb v)
theorem setCells_other (b k : Nat) (hk : k ≠ b) : ∀ (vs : List Value) (o : Nat) (w : World), (w.setCells b o vs).heap[k]? = w.heap[k]?
  | [], _, _ => rfl
  | v :: vs, o, w => (setCells_other b k hk vs (o + 1) _).trans (heap_setCell_other w ⟨b, o, none⟩ k v hk)
theorem DiskAt.setMask {w : World} {p g : Nat} {d : Dk.D} (h : DiskAt w p g d) (m : List (BitVec 8)) (hm : m.length = 16) : DiskAt (w.setCells p 3 (bcells m)) p g { d with mask := m } := by
  refine ⟨?_, ?_, h.ne, h.ok.of_b rfl hm h.ok.left0 h.ok.left1 rfl⟩
  · have h1 := heap_setCells p 46 (bcells m) 3 [.slice (some ⟨g, 0, none⟩) d.b.length d.cap, .bool d.off, .int .i64 d.left] (bcells d.mask) [.int .i64 d.writes] w
      (by rw [bcells_length, bcells_length, hm, h.ok.mask]) rfl h.row
    exact h1
  · rw [setCells_other _ _ h.ne]
    exact h.data

/-- What a cell holds. -/
def cellOf (w : World) (a : Addr) : Value := (w.cell? a).getD undef
theorem cellOf_some {w : World} {a : Addr} (h : (w.cell? a).isSome = true) : w.cell? a = some (cellOf w a) := by
  obtain ⟨v, hv⟩ := Option.isSome_iff_exists.1 h
  unfold cellOf
  rw [hv]
  rfl
theorem frozen_setCells (b : Nat) (a : Addr) : ∀ (vs : List Value) (o : Nat) (w : World), (w.setCells b o vs).frozen? a = w.frozen? a
  | [], _, _ => rfl
  | v :: vs, o, w => (frozen_setCells b a vs (o + 1) _).trans (World.frozen?_setCell _ _ _ _)
theorem cut_keep0 {W : World} {p n : Nat} {bm : List Value} (h1 : W.rangeAt n 0 bm) (h2 : W.there p 3 16) (h3 : W.cell? ⟨p, 2, none⟩ = some (cellOf W ⟨p, 2, none⟩)) (h4 : W.frozen? ⟨p, 2, none⟩ = false) :
    W.drew.rangeAt n 0 bm ∧ W.drew.there p 3 16 ∧ W.drew.cell? ⟨p, 2, none⟩ = some (cellOf W.drew ⟨p, 2, none⟩) ∧ W.drew.frozen? ⟨p, 2, none⟩ = false := ⟨h1, h2, h3, h4⟩
theorem cut_keep1 {W : World} {p n : Nat} {bm : List Value} {v : Value} (hne : ¬ n = p) (h : W.drew.rangeAt n 0 bm ∧ W.drew.there p 3 16 ∧ W.drew.cell? ⟨p, 2, none⟩ = some (cellOf W.drew ⟨p, 2, none⟩) ∧ W.drew.frozen? ⟨p, 2, none⟩ = false) :
    (W.setCell ⟨p, 2, none⟩ v).drew.rangeAt n 0 bm ∧ (W.setCell ⟨p, 2, none⟩ v).drew.there p 3 16 ∧ (W.setCell ⟨p, 2, none⟩ v).drew.cell? ⟨p, 2, none⟩ = some (cellOf (W.setCell ⟨p, 2, none⟩ v).drew ⟨p, 2, none⟩) ∧ (W.setCell ⟨p, 2, none⟩ v).drew.frozen? ⟨p, 2, none⟩ = false := by
  obtain ⟨h1, h2, h3, h4⟩ := h
  have h1 : W.rangeAt n 0 bm := h1
  have h2 : W.there p 3 16 := h2
  have h3 : W.cell? ⟨p, 2, none⟩ = some (cellOf W ⟨p, 2, none⟩) := h3
  have h4 : W.frozen? ⟨p, 2, none⟩ = false := h4
  have g : (W.setCell ⟨p, 2, none⟩ v).rangeAt n 0 bm ∧ (W.setCell ⟨p, 2, none⟩ v).there p 3 16 ∧ (W.setCell ⟨p, 2, none⟩ v).cell? ⟨p, 2, none⟩ = some (cellOf (W.setCell ⟨p, 2, none⟩ v) ⟨p, 2, none⟩) ∧ (W.setCell ⟨p, 2, none⟩ v).frozen? ⟨p, 2, none⟩ = false := ⟨World.rangeAt_setCells_apart h1 p 2 [v] (.inl hne), World.there_setCells h2 p 2 [v], cellOf_some (World.isSome_setCells p [v] 2 W ⟨p, 2, none⟩ (by rw [h3]; rfl)), by rw [World.frozen?_setCell]; exact h4⟩
  exact g
theorem cut_keep2 {W : World} {p n : Nat} {bm bv : List Value} (hne : ¬ n = p) (h : W.drew.rangeAt n 0 bm ∧ W.drew.there p 3 16 ∧ W.drew.cell? ⟨p, 2, none⟩ = some (cellOf W.drew ⟨p, 2, none⟩) ∧ W.drew.frozen? ⟨p, 2, none⟩ = false) :
    (W.setCells p 3 bv).drew.rangeAt n 0 bm ∧ (W.setCells p 3 bv).drew.there p 3 16 ∧ (W.setCells p 3 bv).drew.cell? ⟨p, 2, none⟩ = some (cellOf (W.setCells p 3 bv).drew ⟨p, 2, none⟩) ∧ (W.setCells p 3 bv).drew.frozen? ⟨p, 2, none⟩ = false := by
  obtain ⟨h1, h2, h3, h4⟩ := h
  have h1 : W.rangeAt n 0 bm := h1
  have h2 : W.there p 3 16 := h2
  have h3 : W.cell? ⟨p, 2, none⟩ = some (cellOf W ⟨p, 2, none⟩) := h3
  have h4 : W.frozen? ⟨p, 2, none⟩ = false := h4
  have g : (W.setCells p 3 bv).rangeAt n 0 bm ∧ (W.setCells p 3 bv).there p 3 16 ∧ (W.setCells p 3 bv).cell? ⟨p, 2, none⟩ = some (cellOf (W.setCells p 3 bv) ⟨p, 2, none⟩) ∧ (W.setCells p 3 bv).frozen? ⟨p, 2, none⟩ = false := ⟨World.rangeAt_setCells_apart h1 p 3 bv (.inl hne), World.there_setCells h2 p 3 bv, cellOf_some (World.isSome_setCells p bv 3 W ⟨p, 2, none⟩ (by rw [h3]; rfl)), by rw [frozen_setCells]; exact h4⟩
  exact g

set_option maxRecDepth 100000 in
set_option maxHeartbeats 1000000 in
theorem dk_cut {w : World} {p g : Nat} {d : Dk.D} (h : DiskAt w p g d) (whole : Int) (mask : List (BitVec 8)) (hm : mask.length = 16) (hw : whole ≤ 9223372036854775807) :
    Calls Try.prog 18 #[.pointer (some ⟨p, 0, none⟩), .int .i64 whole, .agg (bytes mask)] w fun e w' => e = .returned (.int .i64 (Dk.cut d whole mask).2) ∧ DiskAt w' p g (Dk.cut d whole mask).1 ∧ Kept [p, g] w w' := by
  have HC := Lib.hid (fun (w : World) (h : DiskAt w p g d) => dk_is h)
  have HP := Lib.hid (show Dk.cut d whole mask = if whole < 0 then (d, 2) else if d.off = true then (d, 12) else ({ d with left := whole, mask := mask }, 0) from rfl)
  have HB := Lib.hid h
  have HL := Lib.hid hm
  generalize hr : Dk.cut d whole mask = r at HP ⊢
  clear hr
  have hal : ∀ o, DiskAt (w.alloc o) p g d := fun o => h.below ((Below.refl _ w).alloc (Nat.le_refl _) o) (Nat.le_refl _)
  have hka : ∀ o, Kept [p, g] w (w.alloc o) := fun o => (Kept.refl _ _).alloc o
  have HA := Lib.hid hal
  have HK := Lib.hid hka
  have hpl := h.ltp
  clear hka
  by_cases h0 : whole < 0
  · obtain rfl : r = (d, 2) := by rw [HP.out, if_pos h0]
    clear HP hal h hm hpl
    generalize bytes mask = mb
    go_enter Try.func18, Try.ntmps18
    go_wp2_with (go_at_call 47; refine (HC.out _ (HA.out _)).mono ?_; rintro e w' ⟨rfl, rfl⟩)
    go_ret
    exact ⟨rfl, HA.out _, HK.out _⟩
  · have c1 := fun o => (hal o).c1
    have c2 := fun o => (hal o).c2
    have f2 := fun o => (hal o).fr 2
    by_cases hoff : d.off = true
    · obtain rfl : r = (d, 12) := by rw [HP.out, if_neg h0, if_pos hoff]
      rw [hoff] at c1
      clear HP hal h hm hpl c2 f2 hoff
      generalize bytes mask = mb at c1 ⊢
      go_enter Try.func18, Try.ntmps18
      go_wp2_with (go_at_call 47; refine (HC.out _ (HA.out _)).mono ?_; rintro e w' ⟨rfl, rfl⟩)
      go_ret
      exact ⟨rfl, HA.out _, HK.out _⟩
    · obtain rfl : r = ({ d with left := whole, mask := mask }, 0) := by rw [HP.out, if_neg h0, if_neg hoff]
      rw [Bool.not_eq_true] at hoff
      rw [hoff] at c1
      clear HP h
      go_enter Try.func18, Try.ntmps18
      go_wp2_with (go_at_call 47; refine (HC.out _ (HA.out _)).mono ?_; rintro e w' ⟨rfl, rfl⟩)
      obtain ⟨W, hW⟩ : ∃ W, w.alloc (Obj.cells (bytes mask) 23) = W := ⟨_, rfl⟩
      have hD := HA.out (Obj.cells (bytes mask) 23)
      have hKW := HK.out (Obj.cells (bytes mask) 23)
      have hnew := heapA_new w (Obj.cells (bytes mask) 23) _ rfl
      rw [hW] at hD hKW hnew ⊢
      have hra : W.rangeAt w.heap.size 0 (bcells mask) := by
        have := World.rangeAt_of_block hnew 0 16
        rw [show ((bytes mask).extract 0 (0 + 16)).toList = bcells mask by rw [← bytes_toList]; congr 1; rw [Nat.zero_add]; exact Array.extract_eq_self_of_le (by rw [bytes_size, hm]; omega)] at this
        exact this
      have hth : W.there p 3 16 := fun j hj => ⟨by rw [hD.c3 j hj]; rfl, hD.fr _⟩
      have c2 := cellOf_some (show (W.cell? ⟨p, 2, none⟩).isSome = true by rw [hD.c2]; rfl)
      have f2 := hD.fr 2
      have HD := Lib.hid hD
      have HKW := Lib.hid hKW
      have hu := Try.underlying23
      have hbl : (bcells mask).length = 16 := by rw [bcells_length, hm]
      have hi : (Try.prog.info? 23).map (·.size) = some (bcells mask).length := by rw [hbl]; kernel_rfl
      have h1 := bcells_one mask
      have hne : ¬ w.heap.size = p := by omega
      have hbm : bytes mask = (bcells mask).toArray := by rw [← bytes_toList]
      have HBM := Lib.hid hbm
      clear hW hD hKW hnew hal hm hbm
      generalize w.heap.size = n at *
      rw [HBM.out]
      have HM : Hid (∀ (u : World) (d : Dk.D), DiskAt u p g d → DiskAt (u.setCells p 3 (bcells mask)) p g { d with mask := mask }) := Lib.hid (fun u d h => h.setMask mask HL.out)
      clear HL HBM
      generalize bcells mask = bm at *
      go_region_held3 (fun w' => w'.rangeAt n 0 bm ∧ w'.there p 3 16 ∧ w'.cell? ⟨p, 2, none⟩ = some (cellOf w' ⟨p, 2, none⟩) ∧ w'.frozen? ⟨p, 2, none⟩ = false) (first | exact cut_keep0 (by assumption) (by assumption) (by assumption) (by assumption) | exact cut_keep1 (by assumption) (by assumption) | exact cut_keep2 (by assumption) (by assumption)) (fail)
      all_goals
        go_wp2
        go_ret
        first
        | exact ⟨rfl, HM.out _ _ (HD.out.setLeft whole (by omega) hw).drew, Kept.setCells (by simp) _ _ _ (HKW.out.setCell (by simp) _)⟩
        | exact ⟨rfl, ((HM.out _ _ HD.out).setLeft whole (by omega) hw).drew, (Kept.setCells (by simp) _ _ _ HKW.out).setCell (by simp) _⟩
        | exact ⟨rfl, (HM.out _ _ HD.out).setLeft whole (by omega) hw, (Kept.setCells (by simp) _ _ _ HKW.out).setCell (by simp) _⟩
end Go.Proofs.Ytdnjjemdnlegdaa
