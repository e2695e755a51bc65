/-
  A log in memory: is, Used, Room, write.
-/
import Derived.Test.YtdnjjemdnlegdaaSloB
import Derived.Test.YtdnjjemdnlegdaaSlL
namespace Go.Proofs.Ytdnjjemdnlegdaa
set_option linter.unusedVariables false
set_option linter.unusedSimpArgs false
open Go Go.RowKit

theorem OwnL.kept {E base : Nat} {l : List Nat} {w w' : World} {v : Value} {vs : List Value} (h : OwnL E base w v vs) (hk : Kept l w w') (hl : ∀ k, v.ownBlock = some k → k ∉ l) : OwnL E base w' v vs := by
  refine ⟨h.1, ?_⟩
  rcases h.2 with hn | ⟨g, cap, cur, rfl, h1, hb, h2⟩
  · exact .inl hn
  · refine .inr ⟨g, cap, cur, rfl, h1, ?_, h2⟩
    rw [hk.block g (Array.getElem?_eq_some_iff.1 hb).1 (hl g rfl)]
    exact hb

/-- The texts of a log: a slice of slices. l: blocks that they do not lie in. -/
structure Tx (w : World) (vt : Value) (ts : List (List (BitVec 8))) (vs : List Value) (l : List Nat) : Prop where
  own : OwnL 22 0 w vt vs
  len : vs.length = ts.length
  txt : ∀ i, i < ts.length → SlB w (vs.getD i undef) (ts.getD i [])
  apart : ∀ i, i < ts.length → ∀ k, (vs.getD i undef).ownBlock = some k → k ∉ l ∧ vt.ownBlock ≠ some k ∧ k < w.heap.size
  out : ∀ k, vt.ownBlock = some k → k ∉ l
theorem Tx.nil (w : World) (l : List Nat) : Tx w (.slice none 0 0) [] [] l := ⟨OwnL.nil _ _ _, rfl, fun i h => absurd h (Nat.not_lt_zero _), fun i h => absurd h (Nat.not_lt_zero _), fun k h => by simp [Value.ownBlock] at h⟩
theorem Tx.kept {w w' : World} {vt : Value} {ts : List (List (BitVec 8))} {vs : List Value} {l l' : List Nat} (h : Tx w vt ts vs l) (hk : Kept l' w w') (hl : ∀ k, k ∈ l' → k ∈ l) : Tx w' vt ts vs l :=
  ⟨h.own.kept hk fun k e hm => h.out k e (hl k hm), h.len, fun i hi => (h.txt i hi).keptV hk fun k e hm => (h.apart i hi k e).1 (hl k hm), fun i hi k e => ⟨(h.apart i hi k e).1, (h.apart i hi k e).2.1, Nat.lt_of_lt_of_le (h.apart i hi k e).2.2 hk.size⟩, h.out⟩

def lcells (p : Nat) (vt : Value) (l : Slo.L) : Array Value := #[.pointer (some ⟨p, 0, none⟩), .int .i64 (l.from_ : Nat), .int .i64 (l.sectors : Nat), vt, .int .i64 (l.used : Nat), .bool l.dead]
/-- The log l lies in block q, its disk in p and g. -/
structure LogAt (w : World) (q p g : Nat) (vt : Value) (vs : List Value) (l : Slo.L) : Prop where
  row : w.heap[q]? = some (.cells (lcells p vt l) 75 (0, 0))
  ne : q ≠ p ∧ q ≠ g
  tx : Tx w vt l.texts vs [p, g, q]
  small : l.from_ ≤ 16384 ∧ l.sectors ≤ 16384 ∧ l.used ≤ l.sectors ∧ l.texts.length ≤ l.used
section
variable {w : World} {q p g : Nat} {vt : Value} {vs : List Value} {l : Slo.L}
theorem LogAt.lt (h : LogAt w q p g vt vs l) : q < w.heap.size := (Array.getElem?_eq_some_iff.1 h.row).1
theorem LogAt.c0 (h : LogAt w q p g vt vs l) : w.cell? ⟨q, 0, none⟩ = some (.pointer (some ⟨p, 0, none⟩)) := cell_of_row w q 0 _ _ _ h.row
theorem LogAt.c1 (h : LogAt w q p g vt vs l) : w.cell? ⟨q, 1, none⟩ = some (.int .i64 (l.from_ : Nat)) := cell_of_row w q 1 _ _ _ h.row
theorem LogAt.c2 (h : LogAt w q p g vt vs l) : w.cell? ⟨q, 2, none⟩ = some (.int .i64 (l.sectors : Nat)) := cell_of_row w q 2 _ _ _ h.row
theorem LogAt.c3 (h : LogAt w q p g vt vs l) : w.cell? ⟨q, 3, none⟩ = some vt := cell_of_row w q 3 _ _ _ h.row
theorem LogAt.c4 (h : LogAt w q p g vt vs l) : w.cell? ⟨q, 4, none⟩ = some (.int .i64 (l.used : Nat)) := cell_of_row w q 4 _ _ _ h.row
theorem LogAt.c5 (h : LogAt w q p g vt vs l) : w.cell? ⟨q, 5, none⟩ = some (.bool l.dead) := cell_of_row w q 5 _ _ _ h.row
theorem LogAt.fr (h : LogAt w q p g vt vs l) (j : Nat) : w.frozen? ⟨q, j, none⟩ = false := frozen_of_row w q j _ _ h.row
theorem LogAt.keptD {w' : World} (h : LogAt w q p g vt vs l) (hk : Kept [p, g] w w') : LogAt w' q p g vt vs l :=
  ⟨(hk.block q h.lt (by simp [h.ne])).trans h.row, h.ne, h.tx.kept hk (by simp), h.small⟩
theorem LogAt.below {w' : World} {B : Nat} (h : LogAt w q p g vt vs l) (hb : Below B w w') (hB : w.heap.size ≤ B) : LogAt w' q p g vt vs l :=
  h.keptD (Kept.ofBelow hb hB)
theorem LogAt.setDead (h : LogAt w q p g vt vs l) (b : Bool) : LogAt (w.setCell ⟨q, 5, none⟩ (.bool b)) q p g vt vs { l with dead := b } :=
  ⟨heap_setCell_same w q 5 _ _ (.bool b) h.row, h.ne, h.tx.kept (l' := [q]) ((Kept.refl [q] w).setCell (by simp) _) (by simp), h.small⟩
end

theorem slo_is {w : World} {q p g : Nat} {vt : Value} {vs : List Value} {l : Slo.L} (h : LogAt w q p g vt vs l) : Calls Try.prog 51 #[.pointer (some ⟨q, 0, none⟩)] w fun e w' => e = .returned (.bool true) ∧ w = w' := by
  have c0 := h.c0
  clear h
  go_enter Try.func51, Try.ntmps51
  go_wp2
  go_ret
  exact ⟨rfl, rfl⟩
theorem slo_is_nil (w : World) : Calls Try.prog 51 #[.pointer none] w fun e w' => e = .returned (.bool false) ∧ w = w' := by
  go_enter Try.func51, Try.ntmps51
  go_wp2
  go_ret
  exact ⟨rfl, rfl⟩
theorem slo_is_zero (w : World) (q : Nat) (h : w.cell? ⟨q, 0, none⟩ = some (.pointer none)) : Calls Try.prog 51 #[.pointer (some ⟨q, 0, none⟩)] w fun e w' => e = .returned (.bool false) ∧ w = w' := by
  go_enter Try.func51, Try.ntmps51
  go_wp2
  go_ret
  exact ⟨rfl, rfl⟩
theorem slo_used {w : World} {q p g : Nat} {vt : Value} {vs : List Value} {l : Slo.L} (h : LogAt w q p g vt vs l) : Calls Try.prog 34 #[.pointer (some ⟨q, 0, none⟩)] w fun e w' => e = .returned (.int .i64 (l.used : Nat)) ∧ w = w' := by
  have c4 := h.c4
  have HI := Lib.hid (slo_is h)
  clear h
  go_enter Try.func34, Try.ntmps34
  go_wp2_with (go_at_call 51; refine HI.out.mono ?_; rintro e w' ⟨rfl, rfl⟩)
  go_ret
  exact ⟨rfl, rfl⟩
theorem slo_used_no {v : Value} {w : World} (h : Calls Try.prog 51 #[v] w fun e w' => e = .returned (.bool false) ∧ w = w') : Calls Try.prog 34 #[v] w fun e w' => e = .returned (.int .i64 0) ∧ w = w' := by
  have HI := Lib.hid h
  clear h
  go_enter Try.func34, Try.ntmps34
  go_wp2_with (go_at_call 51; refine HI.out.mono ?_; rintro e w' ⟨rfl, rfl⟩)
  go_ret
  exact ⟨rfl, rfl⟩
theorem slo_room_no {v : Value} {w : World} (h : Calls Try.prog 51 #[v] w fun e w' => e = .returned (.bool false) ∧ w = w') : Calls Try.prog 39 #[v] w fun e w' => e = .returned (.int .i64 0) ∧ w = w' := by
  have HI := Lib.hid h
  clear h
  go_enter Try.func39, Try.ntmps39
  go_wp2_with (go_at_call 51; refine HI.out.mono ?_; rintro e w' ⟨rfl, rfl⟩)
  go_ret
  exact ⟨rfl, rfl⟩
theorem slo_all_no {v : Value} {w : World} (h : Calls Try.prog 51 #[v] w fun e w' => e = .returned (.bool false) ∧ w = w') : Calls Try.prog 32 #[v] w fun e w' => e = .returned (.slice none 0 0) ∧ w = w' := by
  have HI := Lib.hid h
  clear h
  go_enter Try.func32, Try.ntmps32
  go_wp2_with (go_at_call 51; refine HI.out.mono ?_; rintro e w' ⟨rfl, rfl⟩)
  go_ret
  exact ⟨rfl, rfl⟩
theorem slo_append_no {v u : Value} {w : World} (h : Calls Try.prog 51 #[v] w fun e w' => e = .returned (.bool false) ∧ w = w') : Calls Try.prog 30 #[v, u] w fun e w' => e = .returned (.int .i64 1) ∧ w = w' := by
  have HI := Lib.hid h
  clear h
  go_enter Try.func30, Try.ntmps30
  go_wp2_with (go_at_call 51; refine HI.out.mono ?_; rintro e w' ⟨rfl, rfl⟩)
  go_ret
  exact ⟨rfl, rfl⟩
theorem slo_room {w : World} {q p g : Nat} {vt : Value} {vs : List Value} {l : Slo.L} (h : LogAt w q p g vt vs l) : Calls Try.prog 39 #[.pointer (some ⟨q, 0, none⟩)] w fun e w' => e = .returned (.int .i64 (Slo.room l)) ∧ ∃ n, w' = w.drewN n := by
  have c2 := h.c2
  have c4 := h.c4
  have hs := h.small
  have HI := Lib.hid (slo_is h)
  obtain ⟨A, hA⟩ : ∃ A, l.sectors = A := ⟨_, rfl⟩
  obtain ⟨B, hB⟩ : ∃ B, l.used = B := ⟨_, rfl⟩
  have HR := Lib.hid (show max (-1) (min (262144 : Int) (((A : Int) - B) * 128 - 5)) = Slo.room l by unfold Slo.room; rw [hA, hB]; congr 2; omega)
  rw [hA] at c2 hs
  rw [hB] at c4 hs
  have q1 : IntKind.i64.wrap ((A : Int) - B) = A - B := by rw [IntKind.wrap_i64]; omega
  have q2 : IntKind.i64.wrap (((A : Int) - B) * 128) = (A - B) * 128 := by rw [IntKind.wrap_i64]; omega
  have q3 : IntKind.i64.wrap (((A : Int) - B) * 128 - 5) = (A - B) * 128 - 5 := by rw [IntKind.wrap_i64]; omega
  have h1 : (A : Int) ≤ 16384 := by omega
  have h2 : (B : Int) ≤ A := by omega
  clear h hs hA hB
  go_enter Try.func39, Try.ntmps39
  go_wp2_with (go_at_call 51; refine HI.out.mono ?_; rintro e w' ⟨rfl, rfl⟩)
  go_quiet (fail)
  go_wp2
  all_goals
    go_ret
    refine ⟨?_, _, rfl⟩
    rw [← HR.out]
    show Ending.returned (.int .i64 _) = Ending.returned (.int .i64 _)
    congr 2
    omega

set_option maxRecDepth 100000 in
set_option maxHeartbeats 8000000 in
/-- What write tells and does. -/
theorem slo_write {w : World} {q p g : Nat} {vt : Value} {vs : List Value} {l : Slo.L} {d : Dk.D} (h : LogAt w q p g vt vs l) (hD : DiskAt w p g d) (v : Value) (xs : List (BitVec 8)) (hs : SlB w v xs) (hl : xs.length ≤ 1000000000) (hap : Apart v xs [g, p]) :
    Calls Try.prog 54 #[.pointer (some ⟨q, 0, none⟩), v] w fun e w' =>
      e = .returned (.int .i64 (Dk.write d ((l.from_ + l.used : Nat) : Int) xs).2) ∧ DiskAt w' p g (Dk.write d ((l.from_ + l.used : Nat) : Int) xs).1 ∧
      LogAt w' q p g vt vs { l with dead := l.dead || decide ((Dk.write d ((l.from_ + l.used : Nat) : Int) xs).2 ≠ 0) } ∧ Kept [p, g, q] w w' := by
  have c0 := h.c0
  have c1 := h.c1
  have c4 := h.c4
  have hsm := h.small
  have H := Lib.hid h
  have hn := h.ne
  have HW := Lib.hid (dk_write hD.drew ((l.from_ + l.used : Nat) : Int) v xs hs.drew hl hap (by omega) (by omega))
  obtain ⟨A, hA⟩ : ∃ A, l.from_ = A := ⟨_, rfl⟩
  obtain ⟨B, hB⟩ : ∃ B, l.used = B := ⟨_, rfl⟩
  rw [hA, hB] at HW
  rw [hA] at c1 hsm ⊢
  rw [hB] at c4 hsm ⊢
  have q1 : IntKind.i64.wrap ((A : Int) + B) = ((A + B : Nat) : Int) := by rw [IntKind.wrap_i64]; omega
  have HA := Lib.hid hA
  have HB := Lib.hid hB
  generalize Dk.write d ((A + B : Nat) : Int) xs = R at HW ⊢
  obtain ⟨R1, R2⟩ := R
  have hlt := h.lt
  have hp := hD.ltp
  have hg := hD.ltg
  clear h hs hA hB hap hD
  go_enter Try.func54, Try.ntmps54
  go_upto_region 1 with fail
  go_cut [5] (fun s wx => s = .int .i64 R2 ∧ Hid (DiskAt wx p g R1) ∧ Hid (Kept [p, g] w wx))
  case first =>
    go_region_with (go_at_call 19; refine HW.out.mono ?_; rintro e w' ⟨rfl, hD, hK⟩; have HD := Lib.hid hD; have HK := Lib.hid hK; clear hD hK)
    all_goals (go_wp2_with fail; go_meet)
    all_goals exact ⟨rfl, HD, HK⟩
  case rest =>
    obtain ⟨rfl, HD, HK⟩ := hcut
    have HL := Lib.hid (H.out.keptD HK.out)
    have c5 := HL.out.c5
    have f5 := HL.out.fr 5
    obtain ⟨D, hD⟩ : ∃ D, l.dead = D := ⟨_, rfl⟩
    rw [hD] at c5
    have HDD := Lib.hid hD
    clear hD c0 c1 c4 HW H
    cases D
    · go_wp2
      go_ret
      refine ⟨rfl, HD.out.kept ((Kept.refl [q] wc).setCell (by simp) _) (by simp; omega) (by simp; omega), ?_, (HK.out.mono (by simp)).trans ((Kept.refl [p, g, q] wc).setCell (by simp) _)⟩
      have h3 := HL.out.setDead (decide (R2 ≠ 0))
      rw [HDD.out, ← HA.out, ← HB.out, show (R2 != 0) = decide (R2 ≠ 0) by by_cases h : R2 = 0 <;> simp [h]]
      simpa using h3
    · go_wp2
      go_ret
      refine ⟨rfl, HD.out.kept ((Kept.refl [q] wc).setCell (by simp) _) (by simp; omega) (by simp; omega), ?_, (HK.out.mono (by simp)).trans ((Kept.refl [p, g, q] wc).setCell (by simp) _)⟩
      have h3 := HL.out.setDead true
      rw [HDD.out, ← HA.out, ← HB.out]
      simpa using h3
end Go.Proofs.Ytdnjjemdnlegdaa
