/-
  The stage's theorem in plain Lean: a log and what it should hold, append after append.
-/
import Derived.Test.YtdnjjemdnlegdaaSloJ
namespace Go.Proofs.Ytdnjjemdnlegdaa.Slo
set_option linter.unusedVariables false
set_option linter.unusedSimpArgs false
open Go Dk

theorem append_len {d : D} (h : Ok d) (l : L) (t : List (BitVec 8)) : (append d l t).1.b.length = d.b.length := by
  have h1 := write_ok h ((l.from_ + l.used : Nat) : Int) (whole l t)
  have h2 := write_ok h1.1 ((l.from_ + l.used : Nat) : Int) ((laid 1 t).take 128)
  unfold append
  split
  · rfl
  · split
    · rfl
    · split
      · rfl
      · split
        · exact h1.2
        · split
          · exact h2.2.trans h1.2
          · exact h2.2.trans h1.2
/-- A log on a disk that holds what it should, behind k appends. -/
structure Good (d : D) (l : L) (want : List (List (BitVec 8))) (k : Nat) : Prop where
  is : Is d l
  left : -1 ≤ d.left
  off : d.off = false
  dead : l.dead = false
  fr : l.from_ = 0
  sec : l.sectors = 120
  txt : l.texts = want
  cap : l.used ≤ 5 * k
theorem open_ok {d : D} {ts : List (List (BitVec 8))} (hb : 15360 ≤ d.b.length) (hoff : d.off = false) (hp : parse 120 (region d 0 120) = (ts, true)) : open_ d 0 120 = (some ⟨0, 120, ts, used ts, false⟩, 0) ∧ Is d ⟨0, 120, ts, used ts, false⟩ := by
  constructor
  · unfold open_
    rw [if_neg (by omega), if_neg (by rw [hoff]; simp)]
    simp only [show (120 : Int).toNat = 120 from rfl, show (0 : Int).toNat = 0 from rfl, hp, if_true]
  · exact ⟨by show 128 * (0 + 120) ≤ d.b.length; omega, rfl, hp⟩
theorem Good.cut {d : D} {l : L} {want : List (List (BitVec 8))} {k : Nat} (h : Good d l want k) (whole : Int) (hw : 0 ≤ whole) (mask : List (BitVec 8)) : Good (Dk.cut d whole mask).1 l want k := by
  unfold Dk.cut
  rw [if_neg (by omega), if_neg (by rw [h.off]; simp)]
  exact ⟨⟨h.is.fit, h.is.used_eq, h.is.parse_eq⟩, by show -1 ≤ whole; omega, h.off, h.dead, h.fr, h.sec, h.txt, h.cap⟩
theorem Good.append {d : D} {l : L} {want : List (List (BitVec 8))} {k : Nat} (h : Good d l want k) (hok : Ok d) (hk : k < 20) (t : List (BitVec 8)) (ht : t.length ≤ 600) (hl : -1 ≤ (Slo.append d l t).1.left) :
    ((Slo.append d l t).2.2 = 0 ∧ Good (Slo.append d l t).1 (Slo.append d l t).2.1 (want ++ [t]) (k + 1)) ∨
    ((Slo.append d l t).2.2 = 12 ∧ ∃ l', open_ (restart (Slo.append d l t).1) 0 120 = (some l', 0) ∧ (Good (restart (Slo.append d l t).1) l' want (k + 1) ∨ Good (restart (Slo.append d l t).1) l' (want ++ [t]) (k + 1))) := by
  have hc := h.cap
  have htk := taken_le t.length
  have hse := h.sec
  have hfr := h.fr
  have hlen := append_len hok l t
  have hfit := h.is.fit
  rcases append_spec h.is h.left t h.dead h.off (by omega) (by omega) with ⟨e0, hi, el, eo⟩ | ⟨e12, eo, el, elf, hp⟩
  · refine .inl ⟨e0, hi, hl, eo, ?_, ?_, ?_, ?_, ?_⟩
    · rw [el]; exact h.dead
    · rw [el]; exact h.fr
    · rw [el]; exact h.sec
    · rw [el, ← h.txt]
    · rw [el]
      show l.used + taken t.length ≤ 5 * (k + 1)
      omega
  · rw [hse, hfr] at hp
    have hb : 15360 ≤ (restart (Slo.append d l t).1).b.length := by show 15360 ≤ (Slo.append d l t).1.b.length; omega
    have hu : used l.texts ≤ 5 * k := by rw [← h.is.used_eq]; exact hc
    refine .inr ⟨e12, ?_⟩
    rcases hp with hp | hp
    · obtain ⟨o1, o2⟩ := open_ok hb rfl hp
      exact ⟨_, o1, .inl ⟨o2, by simp [restart], rfl, rfl, rfl, rfl, h.txt, by show used l.texts ≤ 5 * (k + 1); omega⟩⟩
    · obtain ⟨o1, o2⟩ := open_ok hb rfl hp
      refine ⟨_, o1, .inr ⟨o2, by simp [restart], rfl, rfl, rfl, rfl, by rw [← h.txt], ?_⟩⟩
      show used (l.texts ++ [t]) ≤ 5 * (k + 1)
      rw [used_append]
      simp only [used]
      omega
theorem Good.final {d : D} {l : L} {want : List (List (BitVec 8))} {k : Nat} (h : Good d l want k) : open_ (restart d) 0 120 = (some ⟨0, 120, want, l.used, false⟩, 0) := by
  have hf := h.is.fit
  have hse := h.sec
  have hfr := h.fr
  have hp := h.is.parse_eq
  rw [hse, hfr, h.txt] at hp
  rw [(open_ok (d := restart d) (by show 15360 ≤ d.b.length; omega) rfl hp).1, h.is.used_eq, h.txt]
theorem Good.fresh : Good (fresh 120) ⟨0, 120, [], 0, false⟩ [] 0 := by
  have hb : (Dk.fresh 120).b.length = 15360 := by
    show (List.replicate (120 * 128) (0 : BitVec 8)).length = 15360
    rw [List.length_replicate]
  have hs : slot (region (Dk.fresh 120) 0 120) = .no := by
    unfold slot
    rw [if_pos]
    rw [region_getD _ _ _ _ (by omega)]
    simp only [Dk.fresh, List.getD]
    rw [List.getElem?_replicate]
    split <;> rfl
  have h : parse 120 (region (Dk.fresh 120) 0 120) = ([], true) := parse_no _ _ hs
  exact ⟨⟨by rw [hb]; decide, rfl, h⟩, (show (-1 : Int) ≤ -1 by omega), rfl, rfl, rfl, rfl, rfl, Nat.zero_le _⟩
end Go.Proofs.Ytdnjjemdnlegdaa.Slo
