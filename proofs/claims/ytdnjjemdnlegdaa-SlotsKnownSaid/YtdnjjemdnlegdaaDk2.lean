/-
  The disk's call torn: of a sector just the bytes of the mask are written.
-/
import Derived.Test.YtdnjjemdnlegdaaDk1
namespace Go.Proofs.Ytdnjjemdnlegdaa
set_option linter.unusedVariables false
set_option linter.unusedSimpArgs false
open Go Go.RowKit

theorem DiskAt.setByte {w : World} {p g : Nat} {d : Dk.D} (h : DiskAt w p g d) (j : Nat) (hj : j < d.b.length) (x : BitVec 8) : DiskAt (w.setCell ⟨g, j, none⟩ (.int .u8 (bv x))) p g { d with b := d.b.set j x } := by
  refine ⟨?_, ?_, h.ne, h.ok.of_b (by simp) h.ok.mask h.ok.left0 h.ok.left1 rfl⟩
  · rw [heap_setCell_other _ _ _ _ (by simpa using Ne.symm h.ne), h.row]
    simp [dcells, Dk.D.cap]
  · have := heap_setCell_same w g j _ _ (.int .u8 (bv x)) h.data
    rw [List.setIfInBounds_toArray, List.set_append_left _ _ (by rw [bcells_length]; exact hj)] at this
    simpa [bcells, List.map_set, byteV] using this

/-- After i bytes of a torn sector. -/
def tearTo (mask ys : List (BitVec 8)) (o : Nat) (b : List (BitVec 8)) : Nat → List (BitVec 8)
  | 0 => b
  | i + 1 => if Dk.bit mask i = true then (tearTo mask ys o b i).set (o + i) (ys.getD i 0) else tearTo mask ys o b i
theorem tearTo_length (mask ys : List (BitVec 8)) (o : Nat) (b : List (BitVec 8)) (i : Nat) : (tearTo mask ys o b i).length = b.length := by
  induction i with
  | zero => rfl
  | succ i ih => unfold tearTo; split <;> simp [ih]
theorem tearTo_get (mask ys : List (BitVec 8)) (o : Nat) (b : List (BitVec 8)) (i j : Nat) (hj : j < b.length) (ho : o + i ≤ b.length) :
    (tearTo mask ys o b i)[j]? = some (if o ≤ j ∧ j < o + i ∧ Dk.bit mask (j - o) = true then ys.getD (j - o) 0 else b.getD j 0) := by
  induction i with
  | zero => simp [tearTo, hj]; omega
  | succ i ih =>
    have ih := ih (by omega)
    unfold tearTo
    by_cases hb : Dk.bit mask i = true
    · rw [if_pos hb, List.getElem?_set]
      by_cases he : o + i = j
      · subst he
        rw [if_pos rfl, if_pos (by rw [tearTo_length]; exact hj), if_pos (by rw [Nat.add_sub_cancel_left]; exact ⟨by omega, by omega, hb⟩), Nat.add_sub_cancel_left]
      · rw [if_neg he, ih]
        congr 1
        by_cases h1 : o ≤ j ∧ j < o + i ∧ Dk.bit mask (j - o) = true
        · rw [if_pos h1, if_pos ⟨h1.1, by omega, h1.2.2⟩]
        · rw [if_neg h1, if_neg (fun h => h1 ⟨h.1, by omega, h.2.2⟩)]
    · rw [if_neg hb, ih]
      congr 1
      by_cases h1 : o ≤ j ∧ j < o + i ∧ Dk.bit mask (j - o) = true
      · rw [if_pos h1, if_pos ⟨h1.1, by omega, h1.2.2⟩]
      · rw [if_neg h1, if_neg]
        rintro ⟨h2, h3, h4⟩
        by_cases he : j = o + i
        · subst he
          rw [Nat.add_sub_cancel_left] at h4
          exact hb h4
        · exact h1 ⟨h2, by omega, h4⟩
theorem tearTo_all (mask ys : List (BitVec 8)) (k : Nat) (b : List (BitVec 8)) (hk : 128 * k + 128 ≤ b.length) : tearTo mask ys (128 * k) b 128 = splice b (128 * k) (Dk.tornL mask (Dk.sect b k) ys) := by
  apply List.ext_getElem?
  intro j
  have hl : (splice b (128 * k) (Dk.tornL mask (Dk.sect b k) ys)).length = b.length := length_splice _ _ _ (by rw [Dk.tornL_length]; omega)
  by_cases hj : j < b.length
  · rw [tearTo_get mask ys (128 * k) b 128 j hj hk]
    unfold splice
    by_cases h1 : j < 128 * k
    · rw [if_neg (by omega), List.getElem?_append_left (by simp; omega), List.getElem?_take, if_pos h1]
      simp [hj]
    · rw [List.getElem?_append_right (by simp; omega), List.length_take, Nat.min_eq_left (by omega)]
      by_cases h2 : j < 128 * k + 128
      · rw [List.getElem?_append_left (by rw [Dk.tornL_length]; omega)]
        simp only [Dk.tornL, List.getElem?_map, List.getElem?_range (show j - 128 * k < 128 by omega), Option.map_some]
        congr 1
        by_cases hb : Dk.bit mask (j - 128 * k) = true
        · rw [if_pos ⟨by omega, h2, hb⟩, if_pos hb]
        · rw [if_neg (fun h => hb h.2.2), if_neg hb]
          simp [Dk.sect, List.getD, List.getElem?_take, List.getElem?_drop, show j - 128 * k < 128 by omega, show 128 * k + (j - 128 * k) = j by omega]
      · rw [if_neg (by omega), List.getElem?_append_right (by rw [Dk.tornL_length]; omega), Dk.tornL_length, List.getElem?_drop, show 128 * k + 128 + (j - 128 * k - 128) = j by omega]
        simp [hj]
  · rw [List.getElem?_eq_none (by rw [tearTo_length]; omega), List.getElem?_eq_none (by omega)]

theorem u8_shr (a : BitVec 8) (n : Nat) : bv a / 2 ^ n = bv (a >>> n) := by
  unfold bv
  rw [BitVec.toNat_ushiftRight, Nat.shiftRight_eq_div_pow]
  simp
theorem u8_one (a : BitVec 8) : bits .and .u8 (bv a) 1 = bv (a &&& 1) := u8_and' a 1

attribute [local go_sem] u8_shr u8_one

set_option maxRecDepth 100000 in
set_option maxHeartbeats 1000000 in
theorem dk_torn {w : World} {p g : Nat} {d : Dk.D} (h : DiskAt w p g d) (k cap : Nat) (u : Value) (ys : List (BitVec 8)) (hk : 128 * k + 128 ≤ d.b.length) (hcap : 128 ≤ cap) (hs : SlB w u ys) (hy : ys.length = 128) (hu : u.ownBlock ≠ some g) (hup : u.ownBlock ≠ some p) :
    Calls Try.prog 50 #[.pointer (some ⟨p, 0, none⟩), .slice (some ⟨g, 128 * k, none⟩) 128 cap, u] w fun e w' =>
      e = .returned (.tuple #[]) ∧ DiskAt w' p g { d with b := splice d.b (128 * k) (Dk.tornL d.mask (Dk.sect d.b k) ys), off := true, left := -1 } ∧ Kept [p, g] w w' := by
  obtain ⟨b, off, cu, rfl, hcu, hbl⟩ := hs.open_ 128 hy (by decide)
  have hbg : b ≠ g := by simpa [Value.ownBlock] using hu
  have hbp : b ≠ p := by simpa [Value.ownBlock] using hup
  have HD := Lib.hid (tearTo_all d.mask ys k d.b hk)
  clear hu hup
  go_enter Try.func50, Try.ntmps50
  go_wp2
  go_loopw [6, 7] (fun _ i wr => ∃ m : Nat, m ≤ 128 ∧ i = .int .i64 m ∧ DiskAt wr p g { d with b := tearTo d.mask ys (128 * k) d.b m } ∧ Kept [p, g] w wr) (fun _ i _ => 128 - (intOf i).toNat)
  case atStart => exact ⟨0, by omega, rfl, ⟨h.row, h.data, h.ne, h.ok⟩, Kept.refl _ _⟩
  case round =>
    obtain ⟨m, hm, rfl, hD, hK⟩ := hrel
    by_cases hlt : m < 128
    · have c1 := (hs.kept hK (by simp; omega)).cell m (by omega)
      unfold byteV at c1
      have c2 := hD.byte (128 * k + m) (by show _ < (tearTo d.mask ys (128 * k) d.b m).length; rw [tearTo_length]; omega)
      have f2 : wr.frozen? ⟨g, 128 * k + m, none⟩ = false := frozen_of_row wr g (128 * k + m) _ _ hD.data
      obtain ⟨q, r, hq, hr, hql, hrl⟩ : ∃ q r : Nat, m / 8 = q ∧ m % 8 = r ∧ q < 16 ∧ r < 8 := ⟨_, _, rfl, rfl, by omega, by omega⟩
      have c0 := hD.c3 q hql
      have e1 : (m : Int) % 8 = (r : Int) := by omega
      have e2 : (m : Int) / 8 = (q : Int) := by omega
      have HB := Lib.hid (show Dk.bit d.mask m = (((d.mask.getD q 0) >>> r) &&& 1 == 1) by rw [← hq, ← hr]; rfl)
      have HT := Lib.hid (show tearTo d.mask ys (128 * k) d.b (m + 1) = if Dk.bit d.mask m = true then (tearTo d.mask ys (128 * k) d.b m).set (128 * k + m) (ys.getD m 0) else tearTo d.mask ys (128 * k) d.b m from rfl)
      have HDD := Lib.hid hD
      have HK := Lib.hid hK
      dsimp only at c0 c2
      generalize (tearTo d.mask ys (128 * k) d.b m).getD (128 * k + m) 0 = z at c2
      generalize d.mask.getD q 0 = mq at c0 HB
      generalize ys.getD m 0 = y at c1 HT
      clear hq hr hD hK
      by_cases hbit : Dk.bit d.mask m = true
      · have hb1 : bv (mq >>> r &&& 1#8) = 1 := by
          rw [HB.out] at hbit
          have e : mq >>> r &&& 1#8 = 1#8 := beq_iff_eq.1 hbit
          rw [e]
          rfl
        go_wp2
        refine ⟨⟨m + 1, by omega, by go_num, ?_, HK.out.setCell (by simp) _⟩, by simp [intOf]; omega⟩
        have := HDD.out.setByte (128 * k + m) (by show _ < (tearTo d.mask ys (128 * k) d.b m).length; rw [tearTo_length]; omega) y
        rw [HT.out, if_pos hbit]
        exact this
      · have hb1 : ¬ bv (mq >>> r &&& 1#8) = 1 := by
          rw [HB.out] at hbit
          intro hc
          apply hbit
          rw [beq_iff_eq]
          exact bv_inj hc
        go_wp2
        refine ⟨⟨m + 1, by omega, by go_num, ?_, HK.out⟩, by simp [intOf]; omega⟩
        rw [HT.out, if_neg hbit]
        exact HDD.out
    · obtain rfl : m = 128 := by omega
      rw [HD.out] at hD
      have c1 := hD.c1
      have c2 := hD.c2
      have f1 := hD.fr 1
      have f2 := hD.fr 2
      go_wp2
      go_end0
      exact ⟨rfl, (hD.setOff true).setLeft (-1) (by decide) (by decide), (hK.setCell (by simp) _).setCell (by simp) _⟩
end Go.Proofs.Ytdnjjemdnlegdaa
