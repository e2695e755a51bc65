/-
  A disk in plain Lean: what the calls of package disk do. No program in sight.
-/
import Derived.Laws.CopyOwn
namespace Go.Proofs.Ytdnjjemdnlegdaa.Dk
set_option linter.unusedVariables false
set_option linter.unusedSimpArgs false
open Go

structure D where
  b : List (BitVec 8)
  off : Bool
  left : Int
  mask : List (BitVec 8)
  writes : Int
  /-- Cells behind the bytes (a copy's spare). -/
  rest : List Value

def D.cap (d : D) : Nat := d.b.length + d.rest.length
def fresh (n : Nat) : D := ⟨List.replicate (n * 128) 0, false, -1, List.replicate 16 0, 0, []⟩
def has (d : D) (at_ n : Int) : Bool := decide (0 ≤ at_) && decide (0 ≤ n) && decide (at_ ≤ ((d.b.length / 128 : Nat) : Int)) && decide (n ≤ ((d.b.length / 128 : Nat) : Int) - at_)
/-- Why sectors can't be read or written. -/
def may (d : D) (at_ n : Int) : Int := if has d at_ n = true then (if d.off = true then 12 else 0) else 2
/-- A bit of the mask. -/
def bit (mask : List (BitVec 8)) (j : Nat) : Bool := ((mask.getD (j / 8) 0) >>> (j % 8)) &&& 1 == 1
def tornL (mask to fr : List (BitVec 8)) : List (BitVec 8) := (List.range 128).map fun j => if bit mask j = true then fr.getD j 0 else to.getD j 0
def sect (b : List (BitVec 8)) (k : Nat) : List (BitVec 8) := (b.drop (128 * k)).take 128
/-- Behind sector number i of those that are written, whole. -/
def wstep (d : D) (at_ : Nat) (xs : List (BitVec 8)) (i : Nat) : D :=
  { d with b := splice d.b (128 * (at_ + i)) (sect xs i), writes := IntKind.i64.wrap (d.writes + 1), left := max (d.left - 1) (-1) }
/-- The power goes at sector number i. -/
def tear (d : D) (at_ : Nat) (xs : List (BitVec 8)) (i : Nat) : D :=
  { d with b := splice d.b (128 * (at_ + i)) (tornL d.mask (sect d.b (at_ + i)) (sect xs i)), writes := IntKind.i64.wrap (d.writes + 1), off := true, left := -1 }
/-- n sectors from number i on. -/
def run (at_ : Nat) (xs : List (BitVec 8)) : Nat → Nat → D → D × Int
  | 0, _, d => (d, 0)
  | n + 1, i, d => if d.left = 0 then (tear d at_ xs i, 12) else run at_ xs n (i + 1) (wstep d at_ xs i)
def write (d : D) (at_ : Int) (xs : List (BitVec 8)) : D × Int :=
  if xs.length % 128 ≠ 0 then (d, 2)
  else if may d at_ ((xs.length / 128 : Nat) : Int) ≠ 0 then (d, may d at_ ((xs.length / 128 : Nat) : Int))
  else run at_.toNat xs (xs.length / 128) 0 d
def read (d : D) (at_ n : Int) : List (BitVec 8) × Int :=
  if may d at_ n ≠ 0 then ([], may d at_ n) else ((d.b.drop (128 * at_.toNat)).take (128 * n.toNat), 0)
def putAt (d : D) (at_ : Int) (xs : List (BitVec 8)) : D × Int :=
  if at_ < 0 ∨ (d.b.length : Int) < at_ ∨ (d.b.length : Int) - at_ < xs.length then (d, 2) else ({ d with b := splice d.b at_.toNat xs }, 0)
def cut (d : D) (whole : Int) (mask : List (BitVec 8)) : D × Int :=
  if whole < 0 then (d, 2) else if d.off = true then (d, 12) else ({ d with left := whole, mask := mask }, 0)
def restart (d : D) : D := { d with off := false, left := -1 }

/-- What every disk is. -/
structure Ok (d : D) : Prop where
  size : ∃ n, 1 ≤ n ∧ n ≤ 16384 ∧ d.b.length = n * 128
  mask : d.mask.length = 16
  left0 : -1 ≤ d.left
  left1 : d.left ≤ 9223372036854775807
  spare : d.b.length + d.rest.length ≤ 9223372036854775807

theorem sect_length (b : List (BitVec 8)) (k n : Nat) (h : b.length = n * 128) (hk : k < n) : (sect b k).length = 128 := by simp [sect]; omega
theorem tornL_length (mask to fr : List (BitVec 8)) : (tornL mask to fr).length = 128 := by simp [tornL]
theorem splice_length (L xs : List (BitVec 8)) (o : Nat) (h : o + xs.length ≤ L.length) : (splice L o xs).length = L.length := length_splice L o xs h

theorem has_iff (d : D) (at_ n : Int) : has d at_ n = true ↔ 0 ≤ at_ ∧ 0 ≤ n ∧ at_ ≤ ((d.b.length / 128 : Nat) : Int) ∧ n ≤ ((d.b.length / 128 : Nat) : Int) - at_ := by
  simp [has, and_assoc]
theorem may_zero (d : D) (at_ n : Int) : may d at_ n = 0 ↔ (0 ≤ at_ ∧ 0 ≤ n ∧ at_ + n ≤ ((d.b.length / 128 : Nat) : Int)) ∧ d.off = false := by
  unfold may
  by_cases h : has d at_ n = true
  · rw [if_pos h]
    have h' := (has_iff d at_ n).1 h
    cases hd : d.off <;> simp <;> omega
  · rw [if_neg h]
    constructor
    · intro h0; omega
    · rintro ⟨⟨h1, h2, h3⟩, _⟩
      exact absurd ((has_iff d at_ n).2 ⟨h1, h2, by omega, by omega⟩) h

theorem Ok.fresh (n : Nat) (h0 : 1 ≤ n) (h : n ≤ 16384) : Ok (fresh n) := ⟨⟨n, h0, h, by simp [Dk.fresh]⟩, by simp [Dk.fresh], by simp [Dk.fresh], by simp [Dk.fresh], by simp [Dk.fresh]; omega⟩
theorem Ok.of_b {d d' : D} (h : Ok d) (hb : d'.b.length = d.b.length) (hm : d'.mask.length = 16) (h0 : -1 ≤ d'.left) (h1 : d'.left ≤ 9223372036854775807) (hr : d'.rest = d.rest) : Ok d' := by
  obtain ⟨n, a, b, c⟩ := h.size
  exact ⟨⟨n, a, b, by omega⟩, hm, h0, h1, by rw [hr, hb]; exact h.spare⟩
theorem Ok.wstep {d : D} (h : Ok d) (at_ : Nat) (xs : List (BitVec 8)) (i n : Nat) (hx : xs.length = n * 128) (hi : i < n) (ha : (at_ + n) * 128 ≤ d.b.length) : Ok (wstep d at_ xs i) :=
  h.of_b (by rw [Dk.wstep]; exact splice_length _ _ _ (by rw [sect_length xs i n hx hi]; omega)) h.mask (by have := h.left0; simp [Dk.wstep]; omega) (by have := h.left1; simp [Dk.wstep]; omega) rfl
theorem Ok.tear {d : D} (h : Ok d) (at_ : Nat) (xs : List (BitVec 8)) (i n : Nat) (hi : i < n) (ha : (at_ + n) * 128 ≤ d.b.length) : Ok (tear d at_ xs i) :=
  h.of_b (by rw [Dk.tear]; exact splice_length _ _ _ (by rw [tornL_length]; omega)) h.mask (by simp [Dk.tear]) (by simp [Dk.tear]) rfl
theorem wstep_len {d : D} (at_ : Nat) (xs : List (BitVec 8)) (i n : Nat) (hx : xs.length = n * 128) (hi : i < n) (ha : (at_ + n) * 128 ≤ d.b.length) : (wstep d at_ xs i).b.length = d.b.length :=
  splice_length _ _ _ (by rw [sect_length xs i n hx hi]; omega)
theorem run_ok (at_ : Nat) (xs : List (BitVec 8)) (n : Nat) (hx : xs.length = n * 128) : ∀ (m i : Nat) (d : D), m + i = n → (at_ + n) * 128 ≤ d.b.length → Ok d → Ok (run at_ xs m i d).1 ∧ (run at_ xs m i d).1.b.length = d.b.length
  | 0, _, d, _, _, h => ⟨h, rfl⟩
  | m + 1, i, d, hm, ha, h => by
    unfold run
    by_cases hl : d.left = 0
    · rw [if_pos hl]
      exact ⟨h.tear at_ xs i n (by omega) ha, splice_length _ _ _ (by rw [tornL_length]; omega)⟩
    · rw [if_neg hl]
      have hw := wstep_len (d := d) at_ xs i n hx (by omega) ha
      have := run_ok at_ xs n hx m (i + 1) (wstep d at_ xs i) (by omega) (by rw [hw]; exact ha) (h.wstep at_ xs i n hx (by omega) ha)
      rw [hw] at this
      exact this
theorem write_ok {d : D} (h : Ok d) (at_ : Int) (xs : List (BitVec 8)) : Ok (write d at_ xs).1 ∧ (write d at_ xs).1.b.length = d.b.length := by
  unfold write
  by_cases h1 : xs.length % 128 ≠ 0
  · rw [if_pos h1]; exact ⟨h, rfl⟩
  rw [if_neg h1]
  by_cases h2 : may d at_ ((xs.length / 128 : Nat) : Int) ≠ 0
  · rw [if_pos h2]; exact ⟨h, rfl⟩
  rw [if_neg h2]
  have h2' := (may_zero d at_ ((xs.length / 128 : Nat) : Int)).1 (by omega)
  exact run_ok at_.toNat xs (xs.length / 128) (by omega) _ _ d (by omega) (by omega) h
theorem putAt_ok {d : D} (h : Ok d) (at_ : Int) (xs : List (BitVec 8)) : Ok (putAt d at_ xs).1 ∧ (putAt d at_ xs).1.b.length = d.b.length := by
  unfold putAt
  split
  · exact ⟨h, rfl⟩
  · have e := splice_length d.b xs at_.toNat (by omega)
    exact ⟨h.of_b e h.mask h.left0 h.left1 rfl, e⟩
theorem cut_ok {d : D} (h : Ok d) (whole : Int) (mask : List (BitVec 8)) (hm : mask.length = 16) (hw : whole ≤ 9223372036854775807) : Ok (cut d whole mask).1 ∧ (cut d whole mask).1.b = d.b := by
  unfold cut
  split
  · exact ⟨h, rfl⟩
  · split
    · exact ⟨h, rfl⟩
    · exact ⟨h.of_b rfl hm (by simp; omega) hw rfl, rfl⟩
theorem restart_ok {d : D} (h : Ok d) : Ok (restart d) := h.of_b rfl h.mask (by simp [restart]) (by simp [restart]) rfl
end Go.Proofs.Ytdnjjemdnlegdaa.Dk
