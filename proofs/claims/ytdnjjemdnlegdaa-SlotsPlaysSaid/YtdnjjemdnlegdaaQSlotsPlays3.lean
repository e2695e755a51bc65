/-
  SlotsPlays: any act; how the play begins.
-/
import Derived.Test.YtdnjjemdnlegdaaQSlotsPlays2
import Derived.StillTailTactics
import Derived.Deep.RegionLaw
import Derived.Deep.RegionWith
import Derived.BigQuiet
import Derived.Test.YtdnjjemdnlegdaaQSlotsPlays1
namespace Go.Proofs.Ytdnjjemdnlegdaa
set_option linter.unusedVariables false
set_option linter.unusedSimpArgs false
open Go Go.RowKit

def rcells (gr : Nat) (d : Dk.D) (wh : Int) (mk : List (BitVec 8)) : List Value := [.slice (some ⟨gr, 0, none⟩) d.b.length d.b.length, .bool d.off, .bool (decide (0 ≤ d.left)), .int .i64 wh] ++ bcells mk
/-- The reference's disk r, its bytes in gr, tells of the disk d. -/
structure RefAt (w : World) (r gr : Nat) (d : Dk.D) (wh : Int) (mk : List (BitVec 8)) : Prop where
  row : w.heap[r]? = some (.cells (rcells gr d wh mk).toArray 66 (0, 0))
  data : w.heap[gr]? = some (.cells (bytes d.b) 5 (0, 0))
  ne : gr ≠ r
  mlen : mk.length = 16
  cut : 0 ≤ d.left → wh = d.left ∧ mk = d.mask
  small : d.b.length ≤ 2097152
section
variable {w : World} {r gr : Nat} {d : Dk.D} {wh : Int} {mk : List (BitVec 8)}
theorem RefAt.ltr (h : RefAt w r gr d wh mk) : r < w.heap.size := (Array.getElem?_eq_some_iff.1 h.row).1
theorem RefAt.ltg (h : RefAt w r gr d wh mk) : gr < w.heap.size := (Array.getElem?_eq_some_iff.1 h.data).1
theorem RefAt.c (h : RefAt w r gr d wh mk) (j : Nat) (v : Value) (hj : (rcells gr d wh mk)[j]? = some v) : w.cell? ⟨r, j, none⟩ = some v := by
  rw [cell_of_row w r j _ _ _ h.row]
  simpa using hj
theorem RefAt.c0 (h : RefAt w r gr d wh mk) : w.cell? ⟨r, 0, none⟩ = some (.slice (some ⟨gr, 0, none⟩) d.b.length d.b.length) := h.c 0 _ rfl
theorem RefAt.c1 (h : RefAt w r gr d wh mk) : w.cell? ⟨r, 1, none⟩ = some (.bool d.off) := h.c 1 _ rfl
theorem RefAt.c2 (h : RefAt w r gr d wh mk) : w.cell? ⟨r, 2, none⟩ = some (.bool (decide (0 ≤ d.left))) := h.c 2 _ rfl
theorem RefAt.c3 (h : RefAt w r gr d wh mk) : w.cell? ⟨r, 3, none⟩ = some (.int .i64 wh) := h.c 3 _ rfl
theorem RefAt.c4 (h : RefAt w r gr d wh mk) (j : Nat) (hj : j < 16) : w.cell? ⟨r, 4 + j, none⟩ = some (.int .u8 (bv (mk.getD j 0))) := h.c _ _ (by
  rw [rcells, List.getElem?_append_right (by simp), show 4 + j - [Value.slice (some ⟨gr, 0, none⟩) d.b.length d.b.length, .bool d.off, .bool (decide (0 ≤ d.left)), .int .i64 wh].length = j by simp]
  exact bcells_get? _ j (by rw [h.mlen]; exact hj))
theorem RefAt.fr (h : RefAt w r gr d wh mk) (j : Nat) : w.frozen? ⟨r, j, none⟩ = false := frozen_of_row w r j _ _ h.row
theorem RefAt.frg (h : RefAt w r gr d wh mk) (j : Nat) : w.frozen? ⟨gr, j, none⟩ = false := frozen_of_row w gr j _ _ h.data
theorem RefAt.byte (h : RefAt w r gr d wh mk) (j : Nat) (hj : j < d.b.length) : w.cell? ⟨gr, j, none⟩ = some (.int .u8 (bv (d.b.getD j 0))) := (cell_of_row w gr j _ _ _ h.data).trans (bytes_get? _ _ hj)
theorem RefAt.sl (h : RefAt w r gr d wh mk) : SlB w (.slice (some ⟨gr, 0, none⟩) d.b.length d.b.length) d.b :=
  .inr ⟨gr, 0, d.b.length, rfl, Nat.le_refl _, by have := h.small; unfold maxLen; omega, h.ltg, fun j hj => by rw [Nat.zero_add]; exact h.byte j hj⟩
theorem RefAt.kept {w' : World} {l : List Nat} (h : RefAt w r gr d wh mk) (hk : Kept l w w') (hr : r ∉ l) (hg : gr ∉ l) : RefAt w' r gr d wh mk :=
  ⟨(hk.block r h.ltr hr).trans h.row, (hk.block gr h.ltg hg).trans h.data, h.ne, h.mlen, h.cut, h.small⟩
theorem RefAt.below {w' : World} {B : Nat} (h : RefAt w r gr d wh mk) (hb : Below B w w') (hB : w.heap.size ≤ B) : RefAt w' r gr d wh mk :=
  h.kept (Kept.ofBelow (l := []) hb hB) (by simp) (by simp)
theorem RefAt.drew (h : RefAt w r gr d wh mk) : RefAt w.drew r gr d wh mk := ⟨h.row, h.data, h.ne, h.mlen, h.cut, h.small⟩
theorem RefAt.drewN (h : RefAt w r gr d wh mk) (n : Nat) : RefAt (w.drewN n) r gr d wh mk := ⟨h.row, h.data, h.ne, h.mlen, h.cut, h.small⟩
theorem RefAt.setR {d' : Dk.D} {wh' : Int} {mk' : List (BitVec 8)} (h : RefAt w r gr d wh mk) (j : Nat) (v : Value) (hd : (rcells gr d wh mk).set j v = rcells gr d' wh' mk') (hb : d'.b = d.b) (hm : mk'.length = 16) (hc : 0 ≤ d'.left → wh' = d'.left ∧ mk' = d'.mask) : RefAt (w.setCell ⟨r, j, none⟩ v) r gr d' wh' mk' := by
  refine ⟨?_, ?_, h.ne, hm, hc, by rw [hb]; exact h.small⟩
  · have := heap_setCell_same w r j _ _ v h.row
    rw [← hd]
    simpa using this
  · rw [heap_setCell_other _ _ _ _ (by simpa using h.ne), hb]
    exact h.data
theorem RefAt.setByte (h : RefAt w r gr d wh mk) (j : Nat) (x : BitVec 8) : RefAt (w.setCell ⟨gr, j, none⟩ (.int .u8 (bv x))) r gr { d with b := d.b.set j x } wh mk := by
  refine ⟨?_, ?_, h.ne, h.mlen, h.cut, by simpa using h.small⟩
  · rw [heap_setCell_other _ _ _ _ (by simpa using Ne.symm h.ne), h.row]
    simp [rcells]
  · have := heap_setCell_same w gr j _ _ (.int .u8 (bv x)) h.data
    rwa [bytes_set] at this
/-- The reference's disk, whatever its cut says when there is none. -/
def RefD (w : World) (r gr : Nat) (d : Dk.D) : Prop := ∃ wh mk, RefAt w r gr d wh mk
end

/-- After i bytes of a sector. -/
def putTo (sel : Nat → Bool) (ys : List (BitVec 8)) (o : Nat) (b : List (BitVec 8)) : Nat → List (BitVec 8)
  | 0 => b
  | i + 1 => if sel i = true then (putTo sel ys o b i).set (o + i) (ys.getD i 0) else putTo sel ys o b i
theorem putTo_length (sel : Nat → Bool) (ys : List (BitVec 8)) (o : Nat) (b : List (BitVec 8)) (i : Nat) : (putTo sel ys o b i).length = b.length := by
  induction i with
  | zero => rfl
  | succ i ih => unfold putTo; split <;> simp [ih]
theorem putTo_getD (sel : Nat → Bool) (ys : List (BitVec 8)) (o : Nat) (b : List (BitVec 8)) (i j : Nat) (ho : o + i ≤ b.length) :
    (putTo sel ys o b i).getD j 0 = if o ≤ j ∧ j < o + i ∧ sel (j - o) = true then ys.getD (j - o) 0 else b.getD j 0 := by
  induction i with
  | zero => rw [if_neg (by omega)]; rfl
  | succ i ih =>
    have ih := ih (by omega)
    unfold putTo
    by_cases hb : sel i = true
    · rw [if_pos hb]
      by_cases he : j = o + i
      · subst he
        rw [if_pos (by rw [Nat.add_sub_cancel_left]; exact ⟨by omega, by omega, hb⟩), Nat.add_sub_cancel_left]
        simp only [List.getD]
        rw [List.getElem?_set_self (by rw [putTo_length]; omega)]
        rfl
      · have : ((putTo sel ys o b i).set (o + i) (ys.getD i 0)).getD j 0 = (putTo sel ys o b i).getD j 0 := by
          simp only [List.getD]
          rw [List.getElem?_set_ne (fun e => he e.symm)]
        rw [this, ih]
        by_cases h1 : o ≤ j ∧ j < o + i ∧ sel (j - o) = true
        · rw [if_pos h1, if_pos ⟨h1.1, by omega, h1.2.2⟩]
        · rw [if_neg h1, if_neg (fun h => h1 ⟨h.1, by omega, h.2.2⟩)]
    · rw [if_neg hb, ih]
      by_cases h1 : o ≤ j ∧ j < o + i ∧ sel (j - o) = true
      · rw [if_pos h1, if_pos ⟨h1.1, by omega, h1.2.2⟩]
      · rw [if_neg h1, if_neg]
        rintro ⟨h2, h3, h4⟩
        by_cases he : j = o + i
        · subst he
          rw [Nat.add_sub_cancel_left] at h4
          exact hb h4
        · exact h1 ⟨h2, by omega, h4⟩
theorem putTo_torn (mask ys : List (BitVec 8)) (k : Nat) (b : List (BitVec 8)) (hk : 128 * k + 128 ≤ b.length) : putTo (Dk.bit mask) ys (128 * k) b 128 = splice b (128 * k) (Dk.tornL mask (Dk.sect b k) ys) := by
  have hl : (Dk.tornL mask (Dk.sect b k) ys).length = 128 := Dk.tornL_length _ _ _
  refine Dk.ext_getD (by rw [putTo_length, length_splice _ _ _ (by rw [hl]; omega)]) fun j hj => ?_
  rw [putTo_getD _ _ _ _ _ _ (by omega), Dk.splice_getD _ _ _ _ (by rw [hl]; omega), hl]
  by_cases h1 : 128 * k ≤ j ∧ j < 128 * k + 128
  · have h2 : j - 128 * k < 128 := by omega
    rw [if_pos h1, Dk.tornL_getD _ _ _ _ h2, Dk.sect_getD _ _ _ h2, show 128 * k + (j - 128 * k) = j by omega]
    by_cases hb : Dk.bit mask (j - 128 * k) = true
    · rw [if_pos hb, if_pos ⟨h1.1, h1.2, hb⟩]
    · rw [if_neg hb, if_neg (fun h => hb h.2.2)]
  · rw [if_neg h1, if_neg (fun h => h1 ⟨h.1, h.2.1⟩)]
theorem putTo_all (ys : List (BitVec 8)) (o : Nat) (b : List (BitVec 8)) (hy : ys.length = 128) (ho : o + 128 ≤ b.length) : putTo (fun _ => true) ys o b 128 = splice b o ys := by
  refine Dk.ext_getD (by rw [putTo_length, length_splice _ _ _ (by rw [hy]; omega)]) fun j hj => ?_
  rw [putTo_getD _ _ _ _ _ _ (by omega), Dk.splice_getD _ _ _ _ (by rw [hy]; omega), hy]
  by_cases h1 : o ≤ j ∧ j < o + 128
  · rw [if_pos h1, if_pos ⟨h1.1, h1.2, rfl⟩]
  · rw [if_neg h1, if_neg (fun h => h1 ⟨h.1, h.2.1⟩)]
theorem bit_mod (mask : List (BitVec 8)) (j : Nat) : (bv ((mask.getD (j / 8) 0) >>> (j % 8)) % 2 == 1) = Dk.bit mask j := by
  unfold Dk.bit
  generalize (mask.getD (j / 8) 0) >>> (j % 8) = x
  have h1 : (x &&& 1 == 1) = decide (x.toNat % 2 = 1) := by
    have e : (x &&& 1).toNat = x.toNat % 2 := by
      rw [BitVec.toNat_and]
      exact Nat.and_one_is_mod _
    by_cases hx : x.toNat % 2 = 1
    · rw [decide_eq_true hx]
      have : x &&& 1 = 1 := BitVec.eq_of_toNat_eq (by rw [e, hx]; rfl)
      rw [this]; rfl
    · rw [decide_eq_false hx]
      have : x &&& 1 ≠ 1 := fun h => hx (by rw [← e, h]; rfl)
      simpa using this
  rw [h1]
  unfold bv
  by_cases hx : x.toNat % 2 = 1
  · rw [decide_eq_true hx]
    have : (x.toNat : Int) % 2 = 1 := by omega
    rw [this]; rfl
  · rw [decide_eq_false hx]
    have : ¬ (x.toNat : Int) % 2 = 1 := by omega
    simpa using this
end Go.Proofs.Ytdnjjemdnlegdaa
namespace Go.Proofs.Ytdnjjemdnlegdaa
set_option linter.unusedVariables false
set_option linter.unusedSimpArgs false
open Go Go.RowKit
attribute [local go_sem] u8_shr

theorem RefAt.off_any {w : World} {r gr : Nat} {d : Dk.D} {wh : Int} {mk : List (BitVec 8)} (h : RefAt w r gr d wh mk) (d' : Dk.D) (hb : d'.b = d.b) (ho : d'.off = d.off) (hl : d'.left = d.left) (hm : d'.mask = d.mask) : RefAt w r gr d' wh mk := by
  refine ⟨?_, by rw [hb]; exact h.data, h.ne, h.mlen, by rw [hl, hm]; exact h.cut, by rw [hb]; exact h.small⟩
  have e : rcells gr d' wh mk = rcells gr d wh mk := by unfold rcells; rw [hb, ho, hl]
  rw [e]
  exact h.row
theorem rcells_set3 (gr : Nat) (d : Dk.D) (wh x : Int) (mk : List (BitVec 8)) : (rcells gr d wh mk).set 3 (.int .i64 x) = rcells gr d x mk := rfl
theorem rcells_congr (gr : Nat) (d d' : Dk.D) (wh : Int) (mk : List (BitVec 8)) (hb : d.b = d'.b) (ho : d.off = d'.off) (hl : decide (0 ≤ d.left) = decide (0 ≤ d'.left)) : rcells gr d wh mk = rcells gr d' wh mk := by
  unfold rcells
  rw [hb, ho, hl]
/-- A sector is written whole. -/
theorem RefAt.step {w : World} {r gr : Nat} {d : Dk.D} {wh : Int} {mk : List (BitVec 8)} {a k : Nat} {xs : List (BitVec 8)} (h : RefAt w r gr { d with b := putTo (fun _ => true) (Dk.sect xs k) (128 * (a + k)) d.b 128 } wh mk) (hl : d.left ≠ 0) (hl0 : -1 ≤ d.left) (hl1 : d.left ≤ 9223372036854775807)
    (hx : (Dk.sect xs k).length = 128) (hf : 128 * (a + k) + 128 ≤ d.b.length) :
    RefAt (w.setCell ⟨r, 3, none⟩ (.int .i64 (IntKind.i64.wrap (wh - 1)))) r gr (Dk.wstep d a xs k) (IntKind.i64.wrap (wh - 1)) mk := by
  have hp := putTo_all (Dk.sect xs k) (128 * (a + k)) d.b hx hf
  rw [hp] at h
  refine h.setR 3 _ ?_ (by unfold Dk.wstep; rfl) h.mlen ?_
  · rw [rcells_set3]
    have e : (Dk.wstep d a xs k).left = max (d.left - 1) (-1) := by unfold Dk.wstep; rfl
    refine rcells_congr _ _ _ _ _ (by unfold Dk.wstep; rfl) (by unfold Dk.wstep; rfl) ?_
    rw [e]
    show decide (0 ≤ d.left) = decide (0 ≤ max (d.left - 1) (-1))
    exact decide_eq_decide.2 (by omega)
  · intro h0
    have e : (Dk.wstep d a xs k).left = max (d.left - 1) (-1) := by unfold Dk.wstep; rfl
    have e3 : (Dk.wstep d a xs k).mask = d.mask := by unfold Dk.wstep; rfl
    have h1 : 0 ≤ max (d.left - 1) (-1) := by rw [← e]; exact h0
    have h2 : 0 ≤ d.left := by omega
    obtain ⟨e1, e2⟩ := h.cut h2
    refine ⟨?_, e2.trans e3.symm⟩
    have e4 : wh = d.left := e1
    rw [e, e4, IntKind.wrap_i64]
    omega
/-- A sector is torn. -/
theorem RefAt.tear {w : World} {r gr : Nat} {d : Dk.D} {wh : Int} {mk : List (BitVec 8)} {a k : Nat} {xs : List (BitVec 8)} (h : RefAt w r gr { d with b := putTo (Dk.bit mk) (Dk.sect xs k) (128 * (a + k)) d.b 128 } wh mk) (hm : mk = d.mask) (hf : 128 * (a + k) + 128 ≤ d.b.length) :
    RefAt ((w.setCell ⟨r, 1, none⟩ (.bool true)).setCell ⟨r, 2, none⟩ (.bool false)) r gr (Dk.tear d a xs k) wh mk := by
  subst hm
  have hp := putTo_torn d.mask (Dk.sect xs k) (a + k) d.b hf
  rw [hp] at h
  have h1 : RefAt (w.setCell ⟨r, 1, none⟩ (.bool true)) r gr { d with b := splice d.b (128 * (a + k)) (Dk.tornL d.mask (Dk.sect d.b (a + k)) (Dk.sect xs k)), off := true } wh d.mask := h.setR 1 _ rfl rfl h.mlen h.cut
  refine h1.setR 2 _ rfl rfl h.mlen ?_
  intro h0
  exact absurd h0 (by show ¬ (0 : Int) ≤ -1; omega)

set_option maxRecDepth 100000 in
set_option maxHeartbeats 4000000 in
theorem rwrite_ok {w : World} {r gr : Nat} {d : Dk.D} {wh : Int} {mk : List (BitVec 8)} (h : RefAt w r gr d wh mk) (hok0 : -1 ≤ d.left) (hok1 : d.left ≤ 9223372036854775807) (a n b off cap : Nat) (xs : List (BitVec 8)) (hs : SlB w (.slice (some ⟨b, off, none⟩) xs.length cap) xs) (hx : xs.length = n * 128)
    (hap : b ≠ gr ∧ b ≠ r) (ha : (a + n) * 128 ≤ d.b.length) (hoff : d.off = false) :
    Calls Try.prog 69 #[.pointer (some ⟨r, 0, none⟩), .int .i64 (a : Int), .slice (some ⟨b, off, none⟩) (n * 128) cap] w fun e w' =>
      e = .returned (.int .i64 (Dk.run a xs n 0 d).2) ∧ RefD w' r gr (Dk.run a xs n 0 d).1 ∧ Kept [r, gr] w w' := by
  have hsm := h.small
  have HX := Lib.hid hx
  have hcap := hs.bounds.2.1
  have hbw : 0 < n → b < w.heap.size := fun h0 => by
    obtain ⟨b', o', c', e, _, hb⟩ := hs.open_ (n * 128) hx (by omega)
    rw [hx] at e
    simp only [Value.slice.injEq, Option.some.injEq, Addr.mk.injEq] at e
    omega
  rw [hx] at hs hcap
  have HS := Lib.hid hs
  obtain ⟨R, hR⟩ : ∃ R, R = Dk.run a xs n 0 d := ⟨_, rfl⟩
  rw [← hR]
  have HR := Lib.hid hR.symm
  obtain ⟨m, hbl, hm1, hm2⟩ : ∃ m, d.b.length = m ∧ (a + n) * 128 ≤ m ∧ m ≤ 2097152 := ⟨_, rfl, ha, hsm⟩
  have HL := Lib.hid (show d.b.length = m ∧ d.off = false ∧ -1 ≤ d.left ∧ d.left ≤ 9223372036854775807 from ⟨hbl, hoff, hok0, hok1⟩)
  have HD := Lib.hid h
  have c1 := h.c1
  rw [hoff] at c1
  clear hs hx h hR hbl hoff hok0 hok1 ha hsm
  go_enter Try.func69, Try.ntmps69
  go_wp2
  go_loopw [7] (fun s wr => ∃ (k : Nat) (d' : Dk.D) (wh' : Int) (mk' : List (BitVec 8)), k ≤ n ∧ s = .int .i64 k ∧ Hid (RefAt wr r gr d' wh' mk') ∧ Hid (Dk.run a xs (n - k) k d' = R) ∧ Hid (d'.b.length = m ∧ d'.off = false ∧ -1 ≤ d'.left ∧ d'.left ≤ 9223372036854775807) ∧ Hid (Kept [r, gr] w wr)) (fun s _ => n - (intOf s).toNat)
  case atStart => exact ⟨0, d, wh, mk, by omega, rfl, HD, HR, HL, Lib.hid (Kept.refl _ _)⟩
  case round =>
    clear HD HR HL c1
    obtain ⟨k, d', wh', mk', hk, rfl, HD, HR, HL, HK⟩ := hrel
    have p5 : IntKind.i64.wrap (128 * (k : Int)) = ((128 * k : Nat) : Int) := by rw [IntKind.wrap_i64]; omega
    by_cases hlt : k < n
    · have c0 := HD.out.c0
      have c2 := HD.out.c2
      have c3 := HD.out.c3
      rw [HL.out.1] at c0
      obtain ⟨A1, hA1⟩ : ∃ A1, a + k = A1 := ⟨_, rfl⟩
      obtain ⟨A2, hA2⟩ : ∃ A2, 128 * A1 = A2 := ⟨_, rfl⟩
      obtain ⟨X1, hX1⟩ : ∃ X1, 128 * k = X1 := ⟨_, rfl⟩
      rw [hX1] at p5
      have hxn : X1 + 128 ≤ n * 128 := by omega
      have hA3 : A2 + 128 ≤ m := by omega
      have p1 : IntKind.i64.wrap ((a : Int) + k) = (A1 : Int) := by rw [IntKind.wrap_i64]; omega
      have p2 : IntKind.i64.wrap (128 * (A1 : Int)) = (A2 : Int) := by rw [IntKind.wrap_i64]; omega
      have hlt2 : (X1 : Int) < (n : Int) * 128 := by omega
      have HSL := Lib.hid (Dk.sect_length xs k n HX.out hlt)
      have HAX := Lib.hid (And.intro hA1 (And.intro hA2 hX1))
      have HXB := Lib.hid (fun (W : World) (hW : Kept [r, gr] w W) (j : Nat) (hj : j < 128) => (show W.cell? ⟨b, off + (X1 + j), none⟩ = some (.int .u8 (bv ((Dk.sect xs k).getD j 0))) by
        have hxx := HX.out
        rw [hW.cell b _ (hbw (by omega)) (by simp; omega), HS.out.cell (X1 + j) (by omega), Dk.sect_getD _ _ _ hj, ← hX1]; rfl))
      clear hA1 hA2 hX1
      by_cases hl : d'.left = 0
      · obtain ⟨e1, e2⟩ := HD.out.cut (by omega)
        rw [hl] at c2 e1
        rw [e1] at c3
        have HT := Lib.hid ((run_torn a xs n k d' hlt hl).symm.trans HR.out)
        have HE := Lib.hid (And.intro hl e2)
        have c2' : wr.cell? ⟨r, 2, none⟩ = some (.bool true) := c2
        clear hl e1 e2 c2
        go_wp2
        go_loopw [9] (fun s wq => ∃ i : Nat, i ≤ 128 ∧ s = .int .i64 i ∧ Hid (RefAt wq r gr { d' with b := putTo (Dk.bit mk') (Dk.sect xs k) A2 d'.b i } wh' mk') ∧ Hid (Kept [r, gr] w wq)) (fun s _ => 128 - (intOf s).toNat)
        case atStart => exact ⟨0, by omega, rfl, HD, HK⟩
        case round =>
          clear c0 c2' c3
          obtain ⟨i, hi, rfl, HQ, HKQ⟩ := hrel
          by_cases hi2 : i < 128
          · have d0 := HQ.out.c0
            have hlen := putTo_length (Dk.bit mk') (Dk.sect xs k) A2 d'.b i
            rw [show ({ d' with b := putTo (Dk.bit mk') (Dk.sect xs k) A2 d'.b i } : Dk.D).b.length = m from hlen.trans HL.out.1] at d0
            have hby := HQ.out.byte (A2 + i) (by show _ < (putTo (Dk.bit mk') (Dk.sect xs k) A2 d'.b i).length; rw [hlen, HL.out.1]; omega)
            have fby := HQ.out.frg (A2 + i)
            have cxx := HXB.out _ HKQ.out i hi2
            have p3 : IntKind.i64.wrap ((A2 : Int) + i) = ((A2 + i : Nat) : Int) := by rw [IntKind.wrap_i64]; omega
            have p6 : IntKind.i64.wrap ((X1 : Int) + i) = ((X1 + i : Nat) : Int) := by rw [IntKind.wrap_i64]; omega
            have HPT := Lib.hid (show putTo (Dk.bit mk') (Dk.sect xs k) A2 d'.b (i + 1) = if (Dk.bit mk') i = true then (putTo (Dk.bit mk') (Dk.sect xs k) A2 d'.b i).set (A2 + i) ((Dk.sect xs k).getD i 0) else putTo (Dk.bit mk') (Dk.sect xs k) A2 d'.b i from rfl)
            have HSB := Lib.hid (HQ.out.setByte (A2 + i) ((Dk.sect xs k).getD i 0))
            dsimp only at hby
            generalize (putTo (Dk.bit mk') (Dk.sect xs k) A2 d'.b i).getD (A2 + i) 0 = z at hby
            generalize (Dk.sect xs k).getD i 0 = y at cxx HPT HSB
            have hA2i : ((A2 + i : Nat) : Int) < m := by omega
            have hA2n : A2 + i < m := by omega
            have hX2i : X1 + i < n * 128 := by omega
            have hX2n : ((X1 + i : Nat) : Int) < ((n * 128 : Nat) : Int) := by omega
            obtain ⟨qq, rr, hq, hr, hql, hrl⟩ : ∃ q r : Nat, i / 8 = q ∧ i % 8 = r ∧ q < 16 ∧ r < 8 := ⟨_, _, rfl, rfl, by omega, by omega⟩
            have d4 := HQ.out.c4 qq hql
            have e1 : (i : Int) % 8 = (rr : Int) := by omega
            have e2 : (i : Int) / 8 = (qq : Int) := by omega
            have hbit := bit_mod mk' i
            rw [hq, hr] at hbit
            generalize mk'.getD qq 0 = mq at d4 hbit
            have hbn := bv_nonneg (mq >>> rr)
            have ht : (bv (mq >>> rr)).tmod 2 = bv (mq >>> rr) % 2 := Int.tmod_eq_emod_of_nonneg hbn
            have hqi : (qq : Int) < 16 := by omega
            clear hq hr hbn
            by_cases hB : Dk.bit mk' i = true
            · rw [hB] at hbit
              have hb1 : bv (mq >>> rr) % 2 = 1 := by simpa using hbit
              go_wp2
              go_region
              all_goals
                go_wp2
                go_roundw
                case rel =>
                  refine ⟨i + 1, by omega, by go_num, ?_, Lib.hid (HKQ.out.setCell (by simp) _).drew⟩
                  rw [HPT.out, if_pos hB]
                  exact Lib.hid HSB.out.drew
                case measure => simp [intOf]; omega
            · have hb1 : ¬ bv (mq >>> rr) % 2 = 1 := by
                intro hc
                rw [hc] at hbit
                exact hB hbit.symm
              go_wp2
              refine ⟨⟨i + 1, by omega, by go_num, ?_, HKQ⟩, by simp [intOf]; omega⟩
              rw [HPT.out, if_neg hB]
              exact HQ
          · obtain rfl : i = 128 := by omega
            have d1 := HQ.out.c1
            have d2 := HQ.out.c2
            have g1 := HQ.out.fr 1
            have g2 := HQ.out.fr 2
            have hfin := HQ.out
            rw [← HAX.out.2.1, ← HAX.out.1] at hfin
            have hT := hfin.tear HE.out.2 (by have := HAX.out; rw [HL.out.1]; omega)
            have HTT := Lib.hid hT
            clear hfin hT
            go_wp2
            go_ret
            rw [← HT.out]
            exact ⟨rfl, ⟨_, _, HTT.out⟩, (HKQ.out.setCell (by simp) _).setCell (by simp) _⟩
      · have HN := Lib.hid ((run_next a xs n k d' hlt hl).symm.trans HR.out)
        have hmet : (decide (0 ≤ d'.left) && (wh' == 0)) = false := by
          by_cases h0 : 0 ≤ d'.left
          · have := (HD.out.cut h0).1
            rw [this]
            simp [hl]
          · simp [h0]
        have hmm : (∃ hb : Bool, wr.cell? ⟨r, 2, none⟩ = some (.bool hb) ∧ hb = false) ∨ (wr.cell? ⟨r, 2, none⟩ = some (.bool true) ∧ (wh' == 0) = false) := by
          by_cases h0 : 0 ≤ d'.left
          · refine .inr ⟨by rw [c2, decide_eq_true h0], ?_⟩
            rw [(HD.out.cut h0).1]
            simpa using hl
          · exact .inl ⟨_, c2, by rw [decide_eq_false h0]⟩
        clear c2 hmet
        rcases hmm with ⟨hb, c2, rfl⟩ | ⟨c2, hwz⟩
        all_goals
          go_wp2
          go_loopw [9] (fun s wq => ∃ i : Nat, i ≤ 128 ∧ s = .int .i64 i ∧ Hid (RefAt wq r gr { d' with b := putTo (fun _ => true) (Dk.sect xs k) A2 d'.b i } wh' mk') ∧ Hid (Kept [r, gr] w wq)) (fun s _ => 128 - (intOf s).toNat)
          case atStart => exact ⟨0, by omega, rfl, HD, HK⟩
          case round =>
            clear c0 c2 c3
            obtain ⟨i, hi, rfl, HQ, HKQ⟩ := hrel
            by_cases hi2 : i < 128
            · have d0 := HQ.out.c0
              have hlen := putTo_length (fun _ => true) (Dk.sect xs k) A2 d'.b i
              rw [show ({ d' with b := putTo (fun _ => true) (Dk.sect xs k) A2 d'.b i } : Dk.D).b.length = m from hlen.trans HL.out.1] at d0
              have hby := HQ.out.byte (A2 + i) (by show _ < (putTo (fun _ => true) (Dk.sect xs k) A2 d'.b i).length; rw [hlen, HL.out.1]; omega)
              have fby := HQ.out.frg (A2 + i)
              have cxx := HXB.out _ HKQ.out i hi2
              have p3 : IntKind.i64.wrap ((A2 : Int) + i) = ((A2 + i : Nat) : Int) := by rw [IntKind.wrap_i64]; omega
              have p6 : IntKind.i64.wrap ((X1 : Int) + i) = ((X1 + i : Nat) : Int) := by rw [IntKind.wrap_i64]; omega
              have HPT := Lib.hid (show putTo (fun _ => true) (Dk.sect xs k) A2 d'.b (i + 1) = if (fun _ => true) i = true then (putTo (fun _ => true) (Dk.sect xs k) A2 d'.b i).set (A2 + i) ((Dk.sect xs k).getD i 0) else putTo (fun _ => true) (Dk.sect xs k) A2 d'.b i from rfl)
              have HSB := Lib.hid (HQ.out.setByte (A2 + i) ((Dk.sect xs k).getD i 0))
              dsimp only at hby
              generalize (putTo (fun _ => true) (Dk.sect xs k) A2 d'.b i).getD (A2 + i) 0 = z at hby
              generalize (Dk.sect xs k).getD i 0 = y at cxx HPT HSB
              have hA2i : ((A2 + i : Nat) : Int) < m := by omega
              have hA2n : A2 + i < m := by omega
              have hX2i : X1 + i < n * 128 := by omega
              have hX2n : ((X1 + i : Nat) : Int) < ((n * 128 : Nat) : Int) := by omega
              go_wp2
              go_region
              all_goals
                go_wp2
                go_roundw
                case rel =>
                  refine ⟨i + 1, by omega, by go_num, ?_, Lib.hid (HKQ.out.setCell (by simp) _).drew⟩
                  rw [HPT.out, if_pos trivial]
                  exact Lib.hid HSB.out.drew
                case measure => simp [intOf]; omega
            · obtain rfl : i = 128 := by omega
              have d3 := HQ.out.c3
              have g3 := HQ.out.fr 3
              have hfin := HQ.out
              rw [← HAX.out.2.1, ← HAX.out.1] at hfin
              have hT := hfin.step hl HL.out.2.2.1 HL.out.2.2.2 HSL.out (by have := HAX.out; rw [HL.out.1]; omega)
              rw [IntWalk.i64_left] at hT
              have HTT := Lib.hid hT
              have hnew : (Dk.wstep d' a xs k).b.length = m ∧ (Dk.wstep d' a xs k).off = false ∧ -1 ≤ (Dk.wstep d' a xs k).left ∧ (Dk.wstep d' a xs k).left ≤ 9223372036854775807 := by
                have e : (Dk.wstep d' a xs k).left = max (d'.left - 1) (-1) := by unfold Dk.wstep; rfl
                have := HL.out
                refine ⟨(Dk.wstep_len a xs k n HX.out hlt (by rw [HL.out.1]; exact hm1)).trans HL.out.1, HL.out.2.1, ?_, ?_⟩ <;> rw [e] <;> omega
              have HNW := Lib.hid hnew
              clear hfin hT hnew
              go_wp2
              go_roundw
              case rel => exact ⟨k + 1, _, _, _, by omega, by go_num, HTT, HN, HNW, Lib.hid (HKQ.out.setCell (by simp) _)⟩
              case measure => simp [intOf]; omega
    · obtain rfl : k = n := by omega
      have hR : R = (d', 0) := by rw [← HR.out, Nat.sub_self]; rfl
      clear HR
      subst hR
      go_wp2
      go_ret
      exact ⟨rfl, ⟨_, _, HD.out⟩, HK.out⟩

set_option maxRecDepth 100000 in
/-- Sectors are written, or the power is gone. -/
theorem rwrite_any {w : World} {r gr : Nat} {d : Dk.D} (h : RefD w r gr d) (hok0 : -1 ≤ d.left) (hok1 : d.left ≤ 9223372036854775807) (a n : Nat) (v : Value) (xs : List (BitVec 8)) (hs : SlB w v xs) (hx : xs.length = n * 128) (hn : 1 ≤ n) (hap : Apart v xs [gr, r]) (ha : (a + n) * 128 ≤ d.b.length) :
    Calls Try.prog 69 #[.pointer (some ⟨r, 0, none⟩), .int .i64 (a : Int), v] w fun e w' =>
      e = .returned (.int .i64 (Dk.write d (a : Int) xs).2) ∧ RefD w' r gr (Dk.write d (a : Int) xs).1 ∧ Kept [r, gr] w w' := by
  obtain ⟨wh, mk, h⟩ := h
  have hdiv : xs.length / 128 = n := by omega
  by_cases hoff : d.off = true
  · have hm : Dk.may d (a : Int) (n : Int) = 12 := by
      unfold Dk.may
      rw [if_pos ((Dk.has_iff d a n).2 ⟨by omega, by omega, by omega, by omega⟩), if_pos hoff]
    have hw : Dk.write d (a : Int) xs = (d, 12) := by
      unfold Dk.write
      rw [if_neg (by omega), hdiv, if_pos (by rw [hm]; decide), hm]
    rw [hw]
    have c1 := h.c1
    rw [hoff] at c1
    have HD := Lib.hid h
    obtain ⟨va, vc, rfl⟩ := hs.len
    clear h hs hap hw hm
    go_enter Try.func69, Try.ntmps69
    go_wp2
    go_ret
    exact ⟨rfl, ⟨_, _, HD.out⟩, Kept.refl _ _⟩
  · have hoff' : d.off = false := by simpa using hoff
    have hm : Dk.may d (a : Int) (n : Int) = 0 := (Dk.may_zero d a n).2 ⟨⟨by omega, by omega, by omega⟩, hoff'⟩
    have hw : Dk.write d (a : Int) xs = Dk.run a xs n 0 d := by
      unfold Dk.write
      rw [if_neg (by omega), hdiv, if_neg (by rw [hm]; decide), Int.toNat_natCast]
    rw [hw]
    obtain ⟨b, off, cap, rfl, _, _⟩ := hs.open_ (n * 128) hx (by omega)
    rw [← hx] at hs
    have hne : xs ≠ [] := by intro e; rw [e] at hx; simp at hx; omega
    have hb := hap hne b rfl
    simp only [List.mem_cons, List.not_mem_nil, or_false, not_or] at hb
    exact rwrite_ok h hok0 hok1 a n b off cap xs hs hx hb ha hoff'
end Go.Proofs.Ytdnjjemdnlegdaa
namespace Go.Proofs.Ytdnjjemdnlegdaa
set_option linter.unusedVariables false
set_option linter.unusedSimpArgs false
open Go Go.RowKit

/-- The log l lies in block q, its disk in p and g. -/
structure RLogAt (w : World) (q p g : Nat) (vt : Value) (vs : List Value) (l : Slo.L) : Prop where
  row : w.heap[q]? = some (.cells (lcells p vt l) 72 (0, 0))
  ne : q ≠ p ∧ q ≠ g
  tx : Tx w vt l.texts vs [p, g, q]
  small : l.from_ ≤ 16384 ∧ l.sectors ≤ 16384 ∧ l.used ≤ l.sectors ∧ l.texts.length ≤ l.used
section
variable {w : World} {q p g : Nat} {vt : Value} {vs : List Value} {l : Slo.L}
theorem RLogAt.lt (h : RLogAt w q p g vt vs l) : q < w.heap.size := (Array.getElem?_eq_some_iff.1 h.row).1
theorem RLogAt.c0 (h : RLogAt w q p g vt vs l) : w.cell? ⟨q, 0, none⟩ = some (.pointer (some ⟨p, 0, none⟩)) := cell_of_row w q 0 _ _ _ h.row
theorem RLogAt.c1 (h : RLogAt w q p g vt vs l) : w.cell? ⟨q, 1, none⟩ = some (.int .i64 (l.from_ : Nat)) := cell_of_row w q 1 _ _ _ h.row
theorem RLogAt.c2 (h : RLogAt w q p g vt vs l) : w.cell? ⟨q, 2, none⟩ = some (.int .i64 (l.sectors : Nat)) := cell_of_row w q 2 _ _ _ h.row
theorem RLogAt.c3 (h : RLogAt w q p g vt vs l) : w.cell? ⟨q, 3, none⟩ = some vt := cell_of_row w q 3 _ _ _ h.row
theorem RLogAt.c4 (h : RLogAt w q p g vt vs l) : w.cell? ⟨q, 4, none⟩ = some (.int .i64 (l.used : Nat)) := cell_of_row w q 4 _ _ _ h.row
theorem RLogAt.c5 (h : RLogAt w q p g vt vs l) : w.cell? ⟨q, 5, none⟩ = some (.bool l.dead) := cell_of_row w q 5 _ _ _ h.row
theorem RLogAt.fr (h : RLogAt w q p g vt vs l) (j : Nat) : w.frozen? ⟨q, j, none⟩ = false := frozen_of_row w q j _ _ h.row
theorem RLogAt.keptD {w' : World} (h : RLogAt w q p g vt vs l) (hk : Kept [p, g] w w') : RLogAt w' q p g vt vs l :=
  ⟨(hk.block q h.lt (by simp [h.ne])).trans h.row, h.ne, h.tx.kept hk (by simp), h.small⟩
theorem RLogAt.below {w' : World} {B : Nat} (h : RLogAt w q p g vt vs l) (hb : Below B w w') (hB : w.heap.size ≤ B) : RLogAt w' q p g vt vs l :=
  h.keptD (Kept.ofBelow hb hB)
theorem RLogAt.setDead (h : RLogAt w q p g vt vs l) (b : Bool) : RLogAt (w.setCell ⟨q, 5, none⟩ (.bool b)) q p g vt vs { l with dead := b } :=
  ⟨heap_setCell_same w q 5 _ _ (.bool b) h.row, h.ne, h.tx.kept (l' := [q]) ((Kept.refl [q] w).setCell (by simp) _) (by simp), h.small⟩
end

section
variable {wc wd w2 : World} {vt v2 u : Value} {vs : List Value} {o : Obj} {p g q : Nat} {l : Slo.L} {t : List (BitVec 8)}
theorem rapp_row (hL : RLogAt wc q p g vt vs l) (hb : Below wc.heap.size wc wd) (hg : (wd.alloc o).grownBy w2 vt.ownBlock) : w2.heap[q]? = some (.cells (lcells p vt l) 72 (0, 0)) :=
  ((app_kept hb hg).block q hL.lt (fun hm => hL.tx.out q (by simpa using hm) (by simp))).trans hL.row
theorem rapp_end (hL : RLogAt wc q p g vt vs l) (hlp : p < wc.heap.size) (hlg : g < wc.heap.size) (ho : OwnB 5 wc.heap.size wd u t) (hb : Below wc.heap.size wc wd) (hg : (wd.alloc o).grownBy w2 vt.ownBlock) (hown : OwnL 22 0 w2 v2 (vs ++ [u]))
    (hat : v2.ownBlock = vt.ownBlock ∨ v2.ownBlock = some (wd.alloc o).heap.size) :
    (w2.setCell ⟨q, 3, none⟩ v2).heap[q]? = some (.cells (lcells p v2 l) 72 (0, 0)) ∧ Tx (w2.setCell ⟨q, 3, none⟩ v2) v2 (l.texts ++ [t]) (vs ++ [u]) [p, g, q] ∧
    (∀ k, v2.ownBlock = some k → vt.ownBlock = some k ∨ wc.heap.size ≤ k) ∧ Kept ([q] ++ vt.ownBlock.toList) wc (w2.setCell ⟨q, 3, none⟩ v2) := by
  have hz : (wd.alloc o).heap.size = wd.heap.size + 1 := by simp
  have hbs := hb.size
  have hql := hL.lt
  have hgs := hg.size
  have hvq : ∀ k, vt.ownBlock = some k → k ≠ q ∧ k < wc.heap.size := fun k e => ⟨fun h => hL.tx.out k e (by simp [h]), (World.ownsRow.lt hL.tx.own k e).2⟩
  have h2 : ∀ k, v2.ownBlock = some k → vt.ownBlock = some k ∨ k = wd.heap.size + 1 := fun k e => by
    rcases hat with h1 | h1
    · exact .inl (h1 ▸ e)
    · exact .inr (by rw [h1, hz] at e; simpa using e.symm)
  have hK : Kept ([q] ++ vt.ownBlock.toList) wc (w2.setCell ⟨q, 3, none⟩ v2) := ((app_kept hb hg).mono (by intro k hk; simp at hk ⊢; exact .inr hk)).setCell (by simp) _
  refine ⟨heap_setCell_same w2 q 3 _ _ v2 (rapp_row hL hb hg), ?_, fun k e => ?_, hK⟩
  · refine hL.tx.append (B := wd.heap.size + 1) ⟨hlp, hlg, hql⟩ hK ?_ ?_ ?_ (by omega) ?_ (by rw [← hz]; exact hat)
    · refine hown.kept (l := [q]) ((Kept.refl [q] w2).setCell (by simp) _) fun k e hm => ?_
      simp only [List.mem_singleton] at hm
      rcases h2 k e with h3 | h3
      · exact (hvq k h3).1 hm
      · omega
    · refine ho.sl.keptV (l := [q] ++ vt.ownBlock.toList) ((((Kept.refl _ wd).alloc o).grown hg (fun k e => .inl (by simp [e]))).setCell (by simp) _) fun k e hm => ?_
      have h5 := World.ownsRow.lt ho k e
      simp only [List.mem_append, List.mem_singleton, Option.mem_toList] at hm
      rcases hm with rfl | hm
      · omega
      · have := (hvq k hm).2; omega
    · intro k e
      have h5 := World.ownsRow.lt ho k e
      omega
    · have : (w2.setCell ⟨q, 3, none⟩ v2).heap.size = w2.heap.size := by simp
      omega
  · rcases h2 k e with h3 | h3
    · exact .inl h3
    · exact .inr (by omega)
theorem rapp_fin {wx : World} {vs2 : List Value} (hrow : wx.heap[q]? = some (.cells (lcells p v2 l) 72 (0, 0))) (htx : Tx wx v2 (l.texts ++ [t]) vs2 [p, g, q]) (hne : q ≠ p ∧ q ≠ g)
    (hs : l.from_ ≤ 16384 ∧ l.sectors ≤ 16384 ∧ l.used ≤ l.sectors ∧ l.texts.length ≤ l.used) (U k : Nat) (hU : l.used = U) (hk : k ≤ l.sectors - U) (h1 : 1 ≤ k) :
    RLogAt ((wx.setCell ⟨q, 4, none⟩ (.int .i64 ((U : Int) + k))).drew) q p g v2 vs2 { l with texts := l.texts ++ [t], used := l.used + k } := by
  subst hU
  have hr := heap_setCell_same wx q 4 _ _ (.int .i64 ((l.used : Int) + k)) hrow
  have ht : Tx ((wx.setCell ⟨q, 4, none⟩ (.int .i64 ((l.used : Int) + k))).drew) v2 (l.texts ++ [t]) vs2 [p, g, q] := htx.kept (l' := [q]) (((Kept.refl [q] wx).setCell (by simp) _).drew) (by simp)
  refine ⟨?_, hne, ht, ?_⟩
  · refine hr.trans ?_
    simp [lcells]
  · refine ⟨hs.1, hs.2.1, ?_, ?_⟩
    · show l.used + k ≤ l.sectors
      omega
    · show (l.texts ++ [t]).length ≤ l.used + k
      simp; omega
end
set_option maxRecDepth 100000 in
set_option maxHeartbeats 2000000 in
theorem rsame9_any (xs ys : List (List (BitVec 8))) (u v : Value) (w : World) (hu : SlS w u xs) (hv : SlS w v ys) (hx : xs.length ≤ 1000000) (hy : ys.length ≤ 1000000) :
    Calls Try.prog 38 #[u, v] w fun e w' => e = .returned (.bool (decide (xs = ys))) ∧ Below w.heap.size w w' := by
  obtain ⟨a, ca, rfl, ha1, ha2, ha3⟩ := hu
  obtain ⟨b, cb, rfl, hb1, hb2, hb3⟩ := hv
  obtain ⟨n, hn⟩ : ∃ n, xs.length = n := ⟨_, rfl⟩
  obtain ⟨m, hm⟩ : ∃ m, ys.length = m := ⟨_, rfl⟩
  have HA := Lib.hid ha3
  have HB := Lib.hid hb3
  have HN := Lib.hid (And.intro hn hm)
  rw [hn] at HA hx ha1 ⊢
  rw [hm] at HB hy hb1 ⊢
  clear ha3 hb3 hn hm
  by_cases hnm : n = m
  · subst hnm
    go_enter Try.func38, Try.ntmps38
    go_wp2
    go_loopw [5] (fun s wr => ∃ k : Nat, k ≤ n ∧ s = .int .i64 k ∧ Hid (xs.take k = ys.take k) ∧ Hid (Below w.heap.size w wr)) (fun s _ => n - (intOf s).toNat)
    case atStart => exact ⟨0, by omega, rfl, Lib.hid rfl, Lib.hid (Below.refl _ _)⟩
    case round =>
      obtain ⟨k, hk, rfl, HT, HW⟩ := hrel
      by_cases hlt : k < n
      · obtain ⟨g1, o1, v1, rfl, l1, cc1, s1⟩ := HA.out k hlt
        obtain ⟨g2, o2, v2, rfl, l2, cc2, s2⟩ := HB.out k hlt
        have d1 := (HW.out.cell (p := ⟨g1, o1 + k, none⟩) l1).trans cc1
        have d2 := (HW.out.cell (p := ⟨g2, o2 + k, none⟩) l2).trans cc2
        have k1 := fun W (hW : Below w.heap.size w W) => conv_any (s1.below hW (Nat.le_refl _))
        have k2 := fun W (hW : Below w.heap.size w W) => conv_any (s2.below hW (Nat.le_refl _))
        obtain ⟨a1, p1, e1⟩ := s1.len
        obtain ⟨a2, p2, e2⟩ := s2.len
        subst e1
        subst e2
        have kc1 := k1 wr.drew HW.out.drew
        have kc2 := k2 wr.drew HW.out.drew
        obtain ⟨x, hx'⟩ : ∃ x, xs.getD k [] = x := ⟨_, rfl⟩
        obtain ⟨y, hy'⟩ : ∃ y, ys.getD k [] = y := ⟨_, rfl⟩
        rw [hx'] at kc1 d1
        rw [hy'] at kc2 d2
        have HXY := Lib.hid (And.intro hx' hy')
        clear k1 k2 s1 s2 cc1 cc2 hx' hy' HA HB
        by_cases he : x = y
        · subst he
          go_wp2
          go_region
          all_goals
            go_wp2
            refine ⟨⟨k + 1, by omega, by go_num, ?_, Lib.hid HW.out.drew⟩, by simp [intOf]; omega⟩
            exact Lib.hid (take_next (d := []) (by have := HN.out; omega) (by have := HN.out; omega) HT.out (by rw [HXY.out.1, HXY.out.2]))
        · have hsne : ((strB x).toList == (strB y).toList) = false := by rw [beq_str9, decide_eq_false he]
          have HNE := Lib.hid (show xs ≠ ys from ne_of_getD (d := []) (i := k) (by rw [HXY.out.1, HXY.out.2]; exact he))
          go_wp2
          go_region
          all_goals
            go_wp2
            go_ret
            exact ⟨by rw [decide_eq_false HNE.out]; rfl, HW.out.drew⟩
      · obtain rfl : k = n := by omega
        have HE := Lib.hid (show xs = ys from take_ne (by have := HN.out; omega) (by rw [HN.out.1]; exact HT.out))
        go_wp2
        go_ret
        exact ⟨by rw [decide_eq_true HE.out]; rfl, HW.out⟩
  · have HNE := Lib.hid (show xs ≠ ys from fun e => hnm (by have := HN.out; rw [← this.1, ← this.2, e]))
    have h1 : ¬ (n : Int) = m := by omega
    go_enter Try.func38, Try.ntmps38
    go_wp2
    go_ret
    exact ⟨by rw [decide_eq_false HNE.out]; rfl, Below.refl _ _⟩
end Go.Proofs.Ytdnjjemdnlegdaa
namespace Go.Proofs.Ytdnjjemdnlegdaa
set_option linter.unusedVariables false
set_option linter.unusedSimpArgs false
open Go Go.RowKit

theorem rroom_any {w : World} {q p g : Nat} {vt : Value} {vs : List Value} {l : Slo.L} (h : RLogAt w q p g vt vs l) : Calls Try.prog 58 #[.pointer (some ⟨q, 0, none⟩)] w fun e w' => e = .returned (.int .i64 (Slo.room l)) ∧ ∃ n, w' = w.drewN n := by
  have c2 := h.c2
  have c4 := h.c4
  have hs := h.small
  obtain ⟨A, hA⟩ : ∃ A, l.sectors = A := ⟨_, rfl⟩
  obtain ⟨B, hB⟩ : ∃ B, l.used = B := ⟨_, rfl⟩
  have HR := Lib.hid (show max (-1) (min (262144 : Int) (((A : Int) - B) * 128 - 5)) = Slo.room l by unfold Slo.room; rw [hA, hB]; congr 2; omega)
  rw [hA] at c2 hs
  rw [hB] at c4 hs
  have q1 : IntKind.i64.wrap ((A : Int) - B) = A - B := by rw [IntKind.wrap_i64]; omega
  have q2 : IntKind.i64.wrap (128 * ((A : Int) - B)) = 128 * (A - B) := by rw [IntKind.wrap_i64]; omega
  have q3 : IntKind.i64.wrap (128 * ((A : Int) - B) - 5) = 128 * (A - B) - 5 := by rw [IntKind.wrap_i64]; omega
  have h1 : (A : Int) ≤ 16384 := by omega
  have h2 : (B : Int) ≤ A := by omega
  clear h hs hA hB
  go_enter Try.func58, Try.ntmps58
  go_wp2
  go_quiet (fail)
  go_wp2
  all_goals
    go_ret
    refine ⟨?_, _, rfl⟩
    rw [← HR.out]
    show Ending.returned (.int .i64 _) = Ending.returned (.int .i64 _)
    congr 2
    omega

/-- What the reference's Append does. -/
def RAppR (w : World) (q r gr : Nat) (vt : Value) (vs : List Value) (l : Slo.L) (d : Dk.D) (t : List (BitVec 8)) (e : Ending) (w' : World) : Prop :=
  e = .returned (.int .i64 (Slo.append d l t).2.2) ∧ RefD w' r gr (Slo.append d l t).1 ∧
  (∃ vt' vs', RLogAt w' q r gr vt' vs' (Slo.append d l t).2.1 ∧ (∀ k, vt'.ownBlock = some k → vt.ownBlock = some k ∨ w.heap.size ≤ k) ∧ Older w vs vs') ∧ Kept ([r, gr, q] ++ vt.ownBlock.toList) w w'
theorem RefD.kept {w w' : World} {r gr : Nat} {d : Dk.D} {l : List Nat} (h : RefD w r gr d) (hk : Kept l w w') (hr : r ∉ l) (hg : gr ∉ l) : RefD w' r gr d := by
  obtain ⟨wh, mk, h⟩ := h
  exact ⟨wh, mk, h.kept hk hr hg⟩
theorem RefD.below {w w' : World} {r gr : Nat} {d : Dk.D} {B : Nat} (h : RefD w r gr d) (hb : Below B w w') (hB : w.heap.size ≤ B) : RefD w' r gr d := by
  obtain ⟨wh, mk, h⟩ := h
  exact ⟨wh, mk, h.below hb hB⟩
theorem RefD.ltr {w : World} {r gr : Nat} {d : Dk.D} (h : RefD w r gr d) : r < w.heap.size := by obtain ⟨wh, mk, h⟩ := h; exact h.ltr
theorem RefD.ltg {w : World} {r gr : Nat} {d : Dk.D} (h : RefD w r gr d) : gr < w.heap.size := by obtain ⟨wh, mk, h⟩ := h; exact h.ltg
theorem RefD.c1 {w : World} {r gr : Nat} {d : Dk.D} (h : RefD w r gr d) : w.cell? ⟨r, 1, none⟩ = some (.bool d.off) := by obtain ⟨wh, mk, h⟩ := h; exact h.c1

set_option maxRecDepth 100000 in
set_option maxHeartbeats 4000000 in
/-- What is refused. -/
theorem rappend_no {w : World} {q r gr : Nat} {vt : Value} {vs : List Value} {l : Slo.L} {d : Dk.D} (h : RLogAt w q r gr vt vs l) (hD : RefD w r gr d) (a : Option Addr) (n cap : Nat) (c : Int)
    (hc : ((l.dead || d.off) = true ∧ c = 12) ∨ ((l.dead = false ∧ d.off = false) ∧ 262144 < n ∧ c = 3) ∨ ((l.dead = false ∧ d.off = false) ∧ n ≤ 262144 ∧ l.sectors - l.used < Slo.taken n ∧ c = 7)) (hcap : n ≤ 9223372036854775807) :
    Calls Try.prog 57 #[.pointer (some ⟨q, 0, none⟩), .slice a n cap] w fun e w' => e = .returned (.int .i64 c) ∧ ∃ m, w' = w.drewN m := by
  have c0 := h.c0
  have c2 := h.c2
  have c4 := h.c4
  have c5 := h.c5
  have d1 := hD.c1
  have hs := h.small
  rcases hc with ⟨h1, rfl⟩ | ⟨⟨h1, h2⟩, h3, rfl⟩ | ⟨⟨h1, h2⟩, h3, h4, rfl⟩
  · cases hdead : l.dead
    · have hoff : d.off = true := by simpa [hdead] using h1
      rw [hdead] at c5
      rw [hoff] at d1
      clear h hD hs h1 hdead hoff
      go_enter Try.func57, Try.ntmps57
      go_wp2
      go_ret
      exact ⟨rfl, 0, rfl⟩
    · rw [hdead] at c5
      clear h hD hs h1 hdead
      go_enter Try.func57, Try.ntmps57
      go_wp2
      go_ret
      exact ⟨rfl, 0, rfl⟩
  · rw [h1] at c5
    rw [h2] at d1
    have h5 : (262144 : Int) < n := by omega
    clear h hD hs h1 h2
    go_enter Try.func57, Try.ntmps57
    go_wp2
    go_ret
    exact ⟨rfl, 0, rfl⟩
  · rw [h1] at c5
    rw [h2] at d1
    have HTK := Lib.hid (fun w => rtaken_any n (by omega) w)
    have hut := Slo.taken_le n
    generalize Slo.taken n = tk at HTK h4 hut
    obtain ⟨S, hS⟩ : ∃ S, l.sectors = S := ⟨_, rfl⟩
    obtain ⟨U, hU⟩ : ∃ U, l.used = U := ⟨_, rfl⟩
    rw [hS] at c2 h4 hs
    rw [hU] at c4 h4 hs
    have q1 : IntKind.i64.wrap ((U : Int) + tk) = (U : Int) + tk := by rw [IntKind.wrap_i64]; omega
    have h5 : (n : Int) ≤ 262144 := by omega
    have h6 : (S : Int) < (U : Int) + tk := by omega
    clear h hD hs h1 h2 hS hU
    go_enter Try.func57, Try.ntmps57
    go_wp2_with (go_at_call 67; refine (HTK.out _).mono ?_; rintro e w' ⟨rfl, rfl⟩)
    go_quiet (fail)
    go_wp2
    go_ret
    exact ⟨rfl, _, rfl⟩
end Go.Proofs.Ytdnjjemdnlegdaa
namespace Go.Proofs.Ytdnjjemdnlegdaa
set_option linter.unusedVariables false
set_option linter.unusedSimpArgs false
open Go Go.RowKit

theorem RefD.drew {w : World} {r gr : Nat} {d : Dk.D} (h : RefD w r gr d) : RefD w.drew r gr d := by obtain ⟨wh, mk, h⟩ := h; exact ⟨wh, mk, h.drew⟩
theorem RLogAt.undrew {w : World} {q p g : Nat} {vt : Value} {vs : List Value} {l : Slo.L} (h : RLogAt w.drew q p g vt vs l) : RLogAt w q p g vt vs l :=
  h.below (B := w.drew.heap.size) (w' := w) ⟨rfl, rfl, rfl, Nat.le_refl _, fun _ _ => rfl⟩ (Nat.le_refl _)
theorem SlB.keptA {w w' : World} {v : Value} {t : List (BitVec 8)} {l : List Nat} (h : SlB w v t) (hk : Kept l w w') (ha : t ≠ [] → ∀ k, v.ownBlock = some k → k ∉ l) : SlB w' v t := by
  by_cases h0 : t = []
  · rcases h with h | ⟨b, off, cap', e, k1, k2, k3, k4⟩
    · exact .inl h
    · exact .inr ⟨b, off, cap', e, k1, k2, Nat.lt_of_lt_of_le k3 hk.size, fun j hj => absurd hj (by rw [h0]; simp)⟩
  · exact h.keptV hk (ha h0)
set_option maxRecDepth 100000 in
set_option maxHeartbeats 8000000 in
theorem rappend_go {w : World} {q r gr : Nat} {vt : Value} {vs : List Value} {l : Slo.L} {d : Dk.D} (h : RLogAt w q r gr vt vs l) (hD : RefD w r gr d) (hok : Dk.Ok d) (hfd : 128 * (l.from_ + l.sectors) ≤ d.b.length) (a : Option Addr) (n cap : Nat) (t : List (BitVec 8)) (hs : SlB w (.slice a n cap) t) (htl : t.length = n)
    (hap : Apart (.slice a n cap) t [r, gr, q]) (hd : l.dead = false) (ho : d.off = false) (hn : n ≤ 262144) (hf : Slo.taken n ≤ l.sectors - l.used) :
    Calls Try.prog 57 #[.pointer (some ⟨q, 0, none⟩), .slice a n cap] w (RAppR w q r gr vt vs l d t) := by
  have c0 := h.c0
  have c2 := h.c2
  have c4 := h.c4
  have c5 := h.c5
  have d1 := hD.c1
  have hsm := h.small
  have hlq := h.lt
  have hlp := hD.ltr
  have hlg := hD.ltg
  have H := Lib.hid h
  have HD := Lib.hid hD
  have HS := Lib.hid hs
  have HAP := Lib.hid hap
  have HTK := Lib.hid (fun w => (rtaken_any n (by omega) w).mono (R' := fun e w' => e = .returned (.int .i64 ((Slo.taken n : Nat) : Int)) ∧ w = w') (fun e w' h => And.intro h.1 h.2.symm))
  have hll := Slo.laid_length 0 t
  have hll1 := Slo.laid_length 1 t
  rw [htl] at hll hll1
  obtain ⟨M, hM⟩ : ∃ M, 128 * Slo.taken n = M := ⟨_, rfl⟩
  rw [hM] at hll hll1
  have hgt := Slo.taken_ge n
  have hut := Slo.taken_le n
  have hpt := Slo.taken_pos n
  have HLA := Lib.hid (fun (m : BitVec 8) (mi : Int) (hmi : bv m = mi) (hm : (Slo.laid m t).length = M) W (hW : SlB W (.slice a n cap) t) => (show Calls Try.prog 68 #[.slice a n cap, .int .u8 mi] W (fun e w' => ∃ b1 c1, e = .returned (.slice (some ⟨b1, 0, none⟩) M c1) ∧ M ≤ c1 ∧ OwnB 5 W.heap.size w' (.slice (some ⟨b1, 0, none⟩) M c1) (Slo.laid m t) ∧ Below W.heap.size W w') from
    (hmi ▸ rslot_any t m (.slice a n cap) W hW (by omega)).mono (by rintro e w' ⟨v', rfl, hown, hb⟩; obtain ⟨b1, c1, rfl, h1, h2, h3, h4⟩ := hown.form M hm (by omega); exact ⟨b1, c1, rfl, h3, hown, hb⟩)))
  have HLL := Lib.hid hll
  have HLL1 := Lib.hid hll1
  have HWH := Lib.hid (Slo.whole_length l t)
  have HWD := Lib.hid (show Slo.whole l t = Slo.laid 0 t ++ if l.used + Slo.taken t.length < l.sectors then List.replicate 128 0 else [] from rfl)
  have HAD := Lib.hid (show Slo.append d l t = _ from by
    unfold Slo.append
    rw [if_neg (by rw [hd, ho]; decide), if_neg (by omega), if_neg (by rw [htl]; omega), htl])
  have HW1 := Lib.hid (fun (wz : World) (v : Value) (xs : List (BitVec 8)) (d' : Dk.D) (k : Nat) (hd' : RefD wz r gr d') (hok' : Dk.Ok d') (hl' : d'.b.length = d.b.length) (hx : SlB wz v xs) (hxl : xs.length = k * 128) (hk1 : 1 ≤ k) (hk2 : l.used + k ≤ l.sectors) (hxa : Apart v xs [gr, r]) =>
    rwrite_any hd' hok'.left0 hok'.left1 (l.from_ + l.used) k v xs hx hxl hk1 hxa (by omega))
  have HOK1 := Lib.hid (Dk.write_ok hok ((l.from_ + l.used : Nat) : Int) (Slo.whole l t))
  generalize hL0 : Slo.laid 0 t = L0 at HLL HWD hll
  generalize hL1 : Slo.laid 1 t = L1 at HLL1 HAD hll1
  have HE0 := Lib.hid hL0
  have HE1 := Lib.hid hL1
  generalize Slo.whole l t = W0 at HWH HWD HAD HOK1
  obtain ⟨⟨D1, E1⟩, hR⟩ : ∃ R, Dk.write d ((l.from_ + l.used : Nat) : Int) W0 = R := ⟨_, rfl⟩
  rw [hR] at HAD HOK1
  obtain ⟨⟨D2, E2⟩, hR2⟩ : ∃ R, Dk.write D1 ((l.from_ + l.used : Nat) : Int) (L1.take 128) = R := ⟨_, rfl⟩
  simp only [hR2] at HAD
  have HR := Lib.hid hR
  have HR2 := Lib.hid hR2
  have HOK := Lib.hid hok
  rw [hd] at c5
  rw [ho] at d1
  rw [htl] at HWH HWD
  have HTL := Lib.hid htl
  have HDE := Lib.hid hd
  generalize Slo.taken n = tk at HTK hf hM HWH HWD HAD hgt hut hpt
  obtain ⟨S, hS⟩ : ∃ S, l.sectors = S := ⟨_, rfl⟩
  obtain ⟨U, hU⟩ : ∃ U, l.used = U := ⟨_, rfl⟩
  obtain ⟨FR, hFR⟩ : ∃ FR, l.from_ = FR := ⟨_, rfl⟩
  rw [hS] at c2 hf hsm HWH HWD HW1
  rw [hU] at c4 hf hsm HWH HWD HW1 HR HR2 HAD
  rw [hFR] at hsm HW1 HR HR2 HAD
  have q1 : IntKind.i64.wrap ((U : Int) + tk) = (U : Int) + tk := by rw [IntKind.wrap_i64]; omega
  have q2 : IntKind.i64.wrap ((FR : Int) + U) = ((FR + U : Nat) : Int) := by rw [IntKind.wrap_i64]; omega
  have h1 : (n : Int) ≤ 262144 := by omega
  have h2 : ¬ (S : Int) < (U : Int) + tk := by omega
  have HM := Lib.hid (show M ≤ 262276 ∧ 128 ≤ M ∧ 128 * tk = M by omega)
  have HPT := Lib.hid (show 1 ≤ tk ∧ tk ≤ S - U ∧ U + tk ≤ S by omega)
  have HN := Lib.hid hn
  have HLT := Lib.hid (And.intro hlp (And.intro hlg hlq))
  have HSE := Lib.hid (And.intro hS (And.intro hU hFR))
  have HQ := Lib.hid (And.intro q1 q2)
  have HVL := Lib.hid (show vs.length ≤ 1000000 by have h1 := h.tx.len; omega)
  unfold RAppR
  clear h hD hok hfd hd ho hn hf hs hap htl hgt hut hpt hsm hU hS hFR hll hll1 hM hR hR2 hL0 hL1
  go_enter Try.func57, Try.ntmps57
  go_wp2_with (go_at_call 67; refine (HTK.out _).mono ?_; rintro e w' ⟨rfl, rfl⟩)
  go_quiet (fail)
  clear c0 c2 c4 c5 d1
  go_upto_region 9 with (go_at_call 68; refine (HLA.out 0 0 rfl (by rw [HE0.out]; exact HLL.out) _ (HS.out.drewN nq)).mono ?_; rintro e wl ⟨b1, e1, rfl, he1, ho1, hbl⟩; have HO1 := Lib.hid ho1; have HBL := Lib.hid (show Below w.heap.size w wl from (Below.drewN (Below.refl _ w) nq).trans hbl); clear ho1 hbl)
  have hL := H.out.below HBL.out (Nat.le_refl _)
  have c0 := hL.c0
  have c1 := hL.c1
  have c2 := hL.c2
  have c4 := hL.c4
  rw [HSE.out.1] at c2
  rw [HSE.out.2.1] at c4
  rw [HSE.out.2.2] at c1
  clear hL h2
  go_quiet (fail)
  have hlw := HBL.out.size
  have HK0 := Lib.hid (show ∃ k0, W0.length = k0 * 128 ∧ 1 ≤ k0 ∧ U + k0 ≤ S by
    have h1 := HWH.out
    have h2 := HPT.out
    by_cases hlt : U + tk < S
    · rw [if_pos hlt] at h1
      exact ⟨tk + 1, by omega, by omega, by omega⟩
    · rw [if_neg hlt] at h1
      exact ⟨tk, by omega, by omega, by omega⟩)
  go_upto_if 51 with (fail)
  go_cut [6] (fun s wx => ∃ v6, s = v6 ∧ Hid (Below w.heap.size w wx) ∧ Hid (SlB wx v6 W0) ∧ Hid (Apart v6 W0 [gr, r]))
  case first =>
    by_cases hc : (U : Int) + tk < S
    · have hcN : U + tk < S := by omega
      simp only [hcN, if_true] at HWD
      clear hcN
      go_wp2_with (at_builtin; refine wpList_append_z rfl (.tmp 52) (.const (.int .i64 128)) 22 3 5 rfl Try.underlying22 Try.underlying3 info_u8 w.heap.size _ L0 (by have := HO1.out; rw [HE0.out] at this; exact this) (by rw [HLL.out]; have := HM.out; omega) rfl 128 (by decide) rfl (by rw [HLL.out]; have := HM.out; omega) hlw ?_; intro v6 wz ho hg; have HO6 := Lib.hid ho; have HG6 := Lib.hid hg; clear ho hg)
      go_meet
      refine ⟨_, rfl, Lib.hid ((Below.drewN HBL.out nq).grown HG6.out hlw (fun k e => (World.ownsRow.lt HO1.out k e).1)), Lib.hid (by rw [HWD.out]; exact HO6.out.sl), Lib.hid ?_⟩
      intro _ k hk
      have h1 := (World.ownsRow.lt HO6.out k hk).1
      have h3 := HLT.out
      simp; omega
    · have hcN : ¬ U + tk < S := by omega
      simp only [hcN, if_false] at HWD
      clear hcN
      go_wp2_with fail
      go_meet
      have hsl := HO1.out.sl.drewN nq
      rw [HE0.out] at hsl
      refine ⟨_, rfl, Lib.hid (Below.drewN HBL.out nq), Lib.hid (by rw [HWD.out, List.append_nil]; exact hsl), Lib.hid ?_⟩
      intro _ k hk
      have h1 : w.heap.size ≤ k := (World.ownsRow.lt HO1.out k hk).1
      have h3 := HLT.out
      simp; omega
  case rest =>
    obtain ⟨v6, hv6, HZB, HZW, HZA⟩ := hcut
    have hv7 := hv6.symm
    subst hv7
    obtain ⟨wz, rfl⟩ : ∃ x, x = wc := ⟨_, rfl⟩
    clear HO1 HBL c0 c1 c2 c4
    have hLz := H.out.below HZB.out (Nat.le_refl _)
    have c0 := hLz.c0
    have c1 := hLz.c1
    have c4 := hLz.c4
    rw [HSE.out.2.1] at c4
    rw [HSE.out.2.2] at c1
    have HWR := Lib.hid (show Calls Try.prog 69 #[.pointer (some ⟨r, 0, none⟩), .int .i64 ((FR + U : Nat) : Int), v6] wz.drew (fun e w' => e = .returned (.int .i64 E1) ∧ RefD w' r gr D1 ∧ Kept [r, gr] wz.drew w') by
      obtain ⟨k0, hk1, hk2, hk3⟩ := HK0.out
      have := HW1.out wz.drew v6 W0 d k0 (HD.out.below HZB.out (Nat.le_refl _)).drew HOK.out rfl HZW.out.drew hk1 hk2 hk3 HZA.out
      rw [HR.out] at this
      exact this)
    clear hLz
    go_upto_region 11 with fail
    go_cut [7] (fun s wx => s = .int .i64 E1 ∧ Hid (RefD wx r gr D1) ∧ Hid (Kept [r, gr] wz wx))
    case first =>
      go_region_with (go_at_call 69; refine HWR.out.mono ?_; rintro e w' ⟨rfl, hD, hK⟩; have HDx := Lib.hid hD; have HKx := Lib.hid hK; clear hD hK)
      all_goals (go_wp2_with fail; go_meet)
      all_goals exact ⟨rfl, HDx, HKx⟩
    case rest =>
      obtain ⟨rfl, HDx, HKx⟩ := hcut
      obtain ⟨w1, rfl⟩ : ∃ x, x = wc := ⟨_, rfl⟩
      have HKw := Lib.hid (show Kept [r, gr] w w1 from (Kept.ofBelow HZB.out (Nat.le_refl _)).trans HKx.out)
      have HL1c := Lib.hid (H.out.keptD HKw.out)
      clear HWR HK0 HZA HZW c0 c1 c4 HKx HZB
      by_cases hr1 : E1 = 0
      · subst hr1
        have hap := HAD.out
        rw [if_neg (by simp)] at hap
        have HAP2 := Lib.hid hap
        clear hap HAD
        have HSc := Lib.hid (show SlB w1 (.slice a n cap) t from HS.out.keptA HKw.out (fun h0 k hk => by have := HAP.out h0 k hk; simp at this ⊢; omega))
        have c0 := HL1c.out.c0
        have c1 := HL1c.out.c1
        have c4 := HL1c.out.c4
        rw [HSE.out.2.1] at c4
        rw [HSE.out.2.2] at c1
        have hm128 : 128 ≤ M := HM.out.2.1
        have hm129 : (128 : Int) ≤ M := by omega
        have hqw : q < w1.heap.size := HL1c.out.lt
        go_upto_region 13 with fail
        go_cut [7] (fun s wx => s = .int .i64 E2 ∧ Hid (RefD wx r gr D2) ∧ Hid (Kept [r, gr] w1 wx))
        case first =>
          have HL1k := Lib.hid (fun W (hW : Kept [r, gr] w1 W) => HL1c.out.keptD hW)
          have HP0 := Lib.hid (fun W (hW : Kept [r, gr] w1 W) => (HL1k.out W hW).c0)
          have HP1 := Lib.hid (fun W (hW : Kept [r, gr] w1 W) => (show W.cell? ⟨q, 1, none⟩ = some (.int .i64 (FR : Int)) by rw [← HSE.out.2.2]; exact (HL1k.out W hW).c1))
          have HP4 := Lib.hid (fun W (hW : Kept [r, gr] w1 W) => (show W.cell? ⟨q, 4, none⟩ = some (.int .i64 (U : Int)) by rw [← HSE.out.2.1]; exact (HL1k.out W hW).c4))
          clear c0 c1 c4
          -- REG B BEGIN
          refine wp_region_held_drew (S := fun W => Kept [r, gr] w1 W) (by kernel_rfl) ((Kept.refl [r, gr] w1).drew) (fun hHeld => ?_)
          refine wpAnyH_take (i := 0) (v := ?v1) rfl (by kernel_rfl) (by kernel_rfl) (by kernel_rfl) (fun _ _ _ h => h) (Or.inl ⟨by rfl, ?y1⟩) (by assumption) ?r1
          case y1 =>
            intro w' hSw
            go_split_ands
            go_simp
            try with_reducible rfl
          try simp only [List.getElem_toArray, List.getElem_cons_zero, List.getElem_cons_succ, Act.put, List.setIfInBounds_toArray, List.set_cons_zero, List.set_cons_succ]
          refine wpAnyH_take (i := 1) (v := ?v2) rfl (by kernel_rfl) (by kernel_rfl) (by kernel_rfl) (fun _ _ _ h => h) (Or.inl ⟨by rfl, ?y2⟩) (by assumption) ?r2
          case y2 =>
            intro w' hSw
            go_split_ands
            go_simp
            try with_reducible rfl
          try simp only [List.getElem_toArray, List.getElem_cons_zero, List.getElem_cons_succ, Act.put, List.setIfInBounds_toArray, List.set_cons_zero, List.set_cons_succ]
          refine wpAnyH_take (i := 2) (v := ?v3) rfl (by kernel_rfl) (by kernel_rfl) (by kernel_rfl) (fun _ _ _ h => h) (Or.inl ⟨by rfl, ?y3⟩) (by assumption) ?r3
          case y3 =>
            intro w' hSw
            go_split_ands
            go_simp
            try with_reducible rfl
          try simp only [List.getElem_toArray, List.getElem_cons_zero, List.getElem_cons_succ, Act.put, List.setIfInBounds_toArray, List.set_cons_zero, List.set_cons_succ]
          refine wpAnyH_take (i := 3) (v := ?v4) rfl (by kernel_rfl) (by kernel_rfl) (by kernel_rfl) (fun _ _ _ h => h) (Or.inl ⟨by rfl, ?y4⟩) (by assumption) ?r4
          case y4 =>
            intro w' hSw
            have c := HP0.out w' hSw
            go_split_ands
            go_simp
            try with_reducible rfl
          try simp only [List.getElem_toArray, List.getElem_cons_zero, List.getElem_cons_succ, Act.put, List.setIfInBounds_toArray, List.set_cons_zero, List.set_cons_succ]
          refine wpAnyH_take (i := 4) (v := ?v5) rfl (by kernel_rfl) (by kernel_rfl) (by kernel_rfl) (fun _ _ _ h => h) (Or.inl ⟨by rfl, ?y5⟩) (by assumption) ?r5
          case y5 =>
            intro w' hSw
            go_split_ands
            go_simp
            try with_reducible rfl
          try simp only [List.getElem_toArray, List.getElem_cons_zero, List.getElem_cons_succ, Act.put, List.setIfInBounds_toArray, List.set_cons_zero, List.set_cons_succ]
          refine wpAnyH_take (i := 5) (v := ?v6) rfl (by kernel_rfl) (by kernel_rfl) (by kernel_rfl) (fun _ _ _ h => h) (Or.inl ⟨by rfl, ?y6⟩) (by assumption) ?r6
          case y6 =>
            intro w' hSw
            go_split_ands
            go_simp
            try with_reducible rfl
          try simp only [List.getElem_toArray, List.getElem_cons_zero, List.getElem_cons_succ, Act.put, List.setIfInBounds_toArray, List.set_cons_zero, List.set_cons_succ]
          refine wpAnyH_take (i := 6) (v := ?v7) rfl (by kernel_rfl) (by kernel_rfl) (by kernel_rfl) (fun _ _ _ h => h) (Or.inl ⟨by rfl, ?y7⟩) (by assumption) ?r7
          case y7 =>
            intro w' hSw
            go_split_ands
            go_simp
            try with_reducible rfl
          try simp only [List.getElem_toArray, List.getElem_cons_zero, List.getElem_cons_succ, Act.put, List.setIfInBounds_toArray, List.set_cons_zero, List.set_cons_succ]
          refine wpAnyH_take (i := 7) (v := ?v8) rfl (by kernel_rfl) (by kernel_rfl) (by kernel_rfl) (fun _ _ _ h => h) (Or.inl ⟨by rfl, ?y8⟩) (by assumption) ?r8
          case y8 =>
            intro w' hSw
            have c := HP1.out w' hSw
            go_split_ands
            go_simp
            try with_reducible rfl
          try simp only [List.getElem_toArray, List.getElem_cons_zero, List.getElem_cons_succ, Act.put, List.setIfInBounds_toArray, List.set_cons_zero, List.set_cons_succ]
          refine wpAnyH_take (i := 8) (v := ?v9) rfl (by kernel_rfl) (by kernel_rfl) (by kernel_rfl) (fun _ _ _ h => h) (Or.inl ⟨by rfl, ?y9⟩) (by assumption) ?r9
          case y9 =>
            intro w' hSw
            go_split_ands
            go_simp
            try with_reducible rfl
          try simp only [List.getElem_toArray, List.getElem_cons_zero, List.getElem_cons_succ, Act.put, List.setIfInBounds_toArray, List.set_cons_zero, List.set_cons_succ]
          refine wpAnyH_take (i := 9) (v := ?v10) rfl (by kernel_rfl) (by kernel_rfl) (by kernel_rfl) (fun _ _ _ h => h) (Or.inl ⟨by rfl, ?y10⟩) (by assumption) ?r10
          case y10 =>
            intro w' hSw
            go_split_ands
            go_simp
            try with_reducible rfl
          try simp only [List.getElem_toArray, List.getElem_cons_zero, List.getElem_cons_succ, Act.put, List.setIfInBounds_toArray, List.set_cons_zero, List.set_cons_succ]
          refine wpAnyH_take (i := 10) (v := ?v11) rfl (by kernel_rfl) (by kernel_rfl) (by kernel_rfl) (fun _ _ _ h => h) (Or.inl ⟨by rfl, ?y11⟩) (by assumption) ?r11
          case y11 =>
            intro w' hSw
            go_split_ands
            go_simp
            try with_reducible rfl
          try simp only [List.getElem_toArray, List.getElem_cons_zero, List.getElem_cons_succ, Act.put, List.setIfInBounds_toArray, List.set_cons_zero, List.set_cons_succ]
          refine wpAnyH_take (i := 11) (v := ?v12) rfl (by kernel_rfl) (by kernel_rfl) (by kernel_rfl) (fun _ _ _ h => h) (Or.inl ⟨by rfl, ?y12⟩) (by assumption) ?r12
          case y12 =>
            intro w' hSw
            have c := HP4.out w' hSw
            go_split_ands
            go_simp
            try with_reducible rfl
          try simp only [List.getElem_toArray, List.getElem_cons_zero, List.getElem_cons_succ, Act.put, List.setIfInBounds_toArray, List.set_cons_zero, List.set_cons_succ]
          refine wpAnyH_take (i := 12) (v := ?v13) rfl (by kernel_rfl) (by kernel_rfl) (by kernel_rfl) (fun _ _ _ h => h) (Or.inl ⟨by rfl, ?y13⟩) (by assumption) ?r13
          case y13 =>
            intro w' hSw
            go_split_ands
            go_simp
            try with_reducible rfl
          try simp only [List.getElem_toArray, List.getElem_cons_zero, List.getElem_cons_succ, Act.put, List.setIfInBounds_toArray, List.set_cons_zero, List.set_cons_succ]
          refine wpAnyH_take (i := 13) (v := ?v14) rfl (by kernel_rfl) (by kernel_rfl) (by kernel_rfl) (fun _ _ _ h => h) (Or.inl ⟨by rfl, ?y14⟩) (by assumption) ?r14
          case y14 =>
            intro w' hSw
            go_split_ands
            go_simp
            try with_reducible rfl
          try simp only [List.getElem_toArray, List.getElem_cons_zero, List.getElem_cons_succ, Act.put, List.setIfInBounds_toArray, List.set_cons_zero, List.set_cons_succ]
          refine wpAnyH_ready (rs := [14]) (by kernel_rfl) (by simp) ?_
          refine AllReadyH.cons (i := 14) rfl (fun K hK => ?_) AllReadyH.nil
          go_simp
          go_at_call 68
          (with_reducible refine Calls.mono (HLA.out 1 1 rfl (by rw [HE1.out]; exact HLL1.out) _ HSc.out.drew) ?_)
          rintro e wd ⟨b2, e2, rfl, he2, ho2, hb2⟩
          have HO2 := Lib.hid ho2
          have HB2 := Lib.hid (show Below w1.heap.size w1 wd from below_undrew hb2)
          have he3 : 128 ≤ e2 := Nat.le_trans hm128 he2
          have he4 : (128 : Int) ≤ e2 := (by omega)
          clear ho2 hb2 he2
          refine hK.out _ _ (Kept.ofBelow (l := [r, gr]) HB2.out (Nat.le_refl _)) (fun hHeld' => ?_)
          clear hHeld hK K
          have hHeld := hHeld'
          clear hHeld'
          try simp only [List.getElem_toArray, List.getElem_cons_zero, List.getElem_cons_succ, Act.put, List.setIfInBounds_toArray, List.set_cons_zero, List.set_cons_succ]
          refine wpAnyH_take (i := 15) (v := ?v15) rfl (by kernel_rfl) (by kernel_rfl) (by kernel_rfl) (fun _ _ _ h => h) (Or.inl ⟨by rfl, ?y15⟩) (by assumption) ?r15
          case y15 =>
            intro w' hSw
            go_split_ands
            go_simp
            try with_reducible rfl
          try simp only [List.getElem_toArray, List.getElem_cons_zero, List.getElem_cons_succ, Act.put, List.setIfInBounds_toArray, List.set_cons_zero, List.set_cons_succ]
          refine wpAnyH_ready (rs := [16]) (by kernel_rfl) (by simp) ?_
          refine AllReadyH.cons (i := 16) rfl (fun K hK => ?_) AllReadyH.nil
          go_simp
          go_at_call 69
          have hWW : Calls Try.prog 69 #[.pointer (some ⟨r, 0, none⟩), .int .i64 ((FR : Int) + (U : Int)), .slice (some ⟨b2, 0, none⟩) 128 e2] wd (fun e w' => e = .returned (.int .i64 E2) ∧ RefD w' r gr D2 ∧ Kept [r, gr] wd w') := by
            have hsl := HO2.out.sl.take 128 (by omega)
            rw [HE1.out] at hsl
            have := HW1.out wd _ (L1.take 128) D1 1 (HDx.out.below HB2.out (Nat.le_refl _)) HOK1.out.1 HOK1.out.2 hsl (by rw [List.length_take, HLL1.out]; omega) (Nat.le_refl _) (by have := HPT.out; omega) (by intro _ k hk; have h3 : w1.heap.size ≤ k := (World.ownsRow.lt HO2.out k hk).1; have h4 := HLT.out; have h5 := HKw.out.size; simp; omega)
            rw [HR2.out] at this
            exact this
          (with_reducible refine Calls.mono hWW ?_)
          rintro e wf ⟨rfl, hD, hK'⟩
          have HDy := Lib.hid hD
          have HKy := Lib.hid ((Kept.ofBelow HB2.out (Nat.le_refl _)).trans hK')
          clear hD hK' hWW
          refine hK.out _ _ (HKy.out) (fun hHeld' => ?_)
          clear hHeld hK K
          have hHeld := hHeld'
          clear hHeld'
          try simp only [List.getElem_toArray, List.getElem_cons_zero, List.getElem_cons_succ, Act.put, List.setIfInBounds_toArray, List.set_cons_zero, List.set_cons_succ]
          refine wpAnyH_take (i := 17) (v := ?v16) rfl (by kernel_rfl) (by kernel_rfl) (by kernel_rfl) (fun _ _ _ h => h) (Or.inl ⟨by rfl, ?y16⟩) (by assumption) ?r16
          case y16 =>
            intro w' hSw
            go_split_ands
            go_simp
            try with_reducible rfl
          try simp only [List.getElem_toArray, List.getElem_cons_zero, List.getElem_cons_succ, Act.put, List.setIfInBounds_toArray, List.set_cons_zero, List.set_cons_succ]
          refine wpAnyH_done (by kernel_rfl) ?_ _
          go_wp2_with fail
          go_meet
          exact ⟨rfl, HDy, HKy⟩
          -- REG B END
        case rest =>
          obtain ⟨rfl, HDy, HKy⟩ := hcut
          obtain ⟨w2, rfl⟩ : ∃ x, x = wc := ⟨_, rfl⟩
          have HKv := Lib.hid (HKw.out.trans HKy.out)
          have HL2 := Lib.hid (HL1c.out.keptD HKy.out)
          have HSd := Lib.hid (show SlB w2 (.slice a n cap) t from HS.out.keptA HKv.out (fun h0 k hk => by have := HAP.out h0 k hk; simp at this ⊢; omega))
          clear c0 c1 c4 HL1c HSc HDx HW1 HLA hm128 hm129 hqw
          by_cases hr2 : E2 = 0
          · subst hr2
            have hap := HAP2.out
            rw [if_neg (by simp)] at hap
            have HAP3 := Lib.hid hap
            clear hap HAP2
            have c3 := HL2.out.c3
            have f3 := HL2.out.fr 3
            have f4 := HL2.out.fr 4
            have c4 := HL2.out.c4
            rw [HSE.out.2.1] at c4
            have q1 := HQ.out.1
            have hlw2 := HL2.out.lt
            have HSW := Lib.hid (show w.heap.size ≤ w2.heap.size from HKv.out.size)
            go_wp2_with (first
              | (at_builtin; refine wpList_append_b rfl (.tmp 94) (.tmp 95) 22 5 rfl Try.underlying22 info_u8 w2.heap.size (.slice none 0 0) [] (OwnB.nil _ _ _) rfl _ t HSd.out rfl (by rw [HTL.out]; have := HN.out; simp; omega) (Nat.le_refl _) ?_; intro v3 w3 ho hg hn'; obtain ⟨a3, cp3, rfl⟩ := ho.sl.len; have HOd := Lib.hid ho; have HBd := Lib.hid ((Below.refl w2.heap.size w2).grown hg (Nat.le_refl _) (fun k e => by simp [Value.ownBlock] at e)); have d3 : w3.cell? ⟨q, 3, none⟩ = some vt := (HBd.out.cell (p := ⟨q, 3, none⟩) hlw2).trans c3; clear ho hg hn')
              | (at_builtin; (refine wpList_append_l1 rfl (.tmp 101) (.tmp 103) 47 22 rfl Try.underlying47 info_sl vt vs ((show OwnL 22 0 w3 vt vs from HL2.out.tx.own.below HBd.out (Nat.le_refl _)).alloc _) (by rfl) w3.heap.size (.slice a3 t.length cp3) (by rfl) (cell_new1 _ _ _) rfl HVL.out ?_); intro v5 w5 ho hg hat; (have hrq := rapp_row HL2.out HBd.out hg); (have e3 : w5.cell? ⟨q, 3, none⟩ = some vt := cell_of_row w5 q 3 _ _ _ hrq); (have g3 : w5.frozen? ⟨q, 3, none⟩ = false := frozen_of_row w5 q 3 _ _ hrq); (have e4 : w5.cell? ⟨q, 4, none⟩ = some (.int .i64 (U : Int)) := (by rw [← HSE.out.2.1]; exact cell_of_row w5 q 4 _ _ _ hrq)); (have g4 : w5.frozen? ⟨q, 4, none⟩ = false := frozen_of_row w5 q 4 _ _ hrq); (have HO5 := Lib.hid ho); (have HG5 := Lib.hid hg); (have HAT := Lib.hid hat); (obtain ⟨g5, cap5, hv5⟩ := ho.form1); (subst hv5); (clear ho hg hat hrq)))
            have hE := rapp_end HL2.out (Nat.lt_of_lt_of_le HLT.out.1 HSW.out) (Nat.lt_of_lt_of_le HLT.out.2.1 HSW.out) (show OwnB 5 w2.heap.size w3 (.slice a3 t.length cp3) t from HOd.out) HBd.out HG5.out HO5.out HAT.out
            have hF := (rapp_fin hE.1 hE.2.1 HL2.out.ne HL2.out.small U tk HSE.out.2.1 (by rw [HSE.out.1]; exact HPT.out.2.1) HPT.out.1).undrew
            have hK2 : Kept ([q] ++ vt.ownBlock.toList) w2 ((w5.setCell ⟨q, 3, none⟩ (.slice (some ⟨g5, 0, none⟩) (vs.length + 1) cap5)).setCell ⟨q, 4, none⟩ (.int .i64 ((U : Int) + tk))) := hE.2.2.2.setCell (by simp) _
            have hvo := HL2.out.tx.out
            have hne := HL2.out.ne
            go_ret
            rw [HAP3.out]
            refine ⟨rfl, HDy.out.kept hK2 ?_ ?_, ⟨_, _, by rw [← HSE.out.2.2]; have h9 := hF; rw [HSE.out.2.1] at h9; exact h9, fun k e => ?_, Older.more fun k e => ?_⟩, ?_⟩
            · intro hm
              simp only [List.mem_append, List.mem_singleton, Option.mem_toList] at hm
              rcases hm with hm | hm
              · exact hne.1 hm.symm
              · exact hvo r hm (by simp)
            · intro hm
              simp only [List.mem_append, List.mem_singleton, Option.mem_toList] at hm
              rcases hm with hm | hm
              · exact hne.2 hm.symm
              · exact hvo gr hm (by simp)
            · rcases hE.2.2.1 k e with h1 | h1
              · exact .inl h1
              · exact .inr (Nat.le_trans HSW.out h1)
            · exact Nat.le_trans HSW.out (World.ownsRow.lt HOd.out k e).1
            · exact (HKv.out.mono (by intro k hk; simp at hk ⊢; rcases hk with h | h <;> simp [h])).trans (hK2.mono (by intro k hk; simp at hk ⊢; rcases hk with h | h <;> simp [h]))
          · have c5 := HL2.out.c5
            have f5 := HL2.out.fr 5
            go_wp2
            go_ret
            have hap := HAP2.out
            rw [if_pos hr2] at hap
            rw [hap]
            exact ⟨rfl, HDy.out.kept ((Kept.refl [q] w2).setCell (by simp) _) (by simp; exact fun e => HL2.out.ne.1 e.symm) (by simp; exact fun e => HL2.out.ne.2 e.symm), ⟨vt, vs, by rw [← HSE.out.2.1, ← HSE.out.2.2]; exact HL2.out.setDead true, fun k hk => .inl hk, Older.refl _ _⟩, (HKv.out.mono (by intro k hk; simp at hk ⊢; rcases hk with h | h <;> simp [h])).setCell (by simp) _⟩
      · have c5 := HL1c.out.c5
        have f5 := HL1c.out.fr 5
        go_wp2
        go_ret
        have hap := HAD.out
        rw [if_pos hr1] at hap
        rw [hap]
        exact ⟨rfl, HDx.out.kept ((Kept.refl [q] w1).setCell (by simp) _) (by simp; exact fun e => HL1c.out.ne.1 e.symm) (by simp; exact fun e => HL1c.out.ne.2 e.symm), ⟨vt, vs, by rw [← HSE.out.2.1, ← HSE.out.2.2]; exact HL1c.out.setDead true, fun k hk => .inl hk, Older.refl _ _⟩, (HKw.out.mono (by intro k hk; simp at hk ⊢; rcases hk with h | h <;> simp [h])).setCell (by simp) _⟩
end Go.Proofs.Ytdnjjemdnlegdaa
namespace Go.Proofs.Ytdnjjemdnlegdaa
set_option linter.unusedVariables false
set_option linter.unusedSimpArgs false
open Go Go.RowKit

theorem RefD.drewN {w : World} {r gr : Nat} {d : Dk.D} (h : RefD w r gr d) (n : Nat) : RefD (w.drewN n) r gr d := by obtain ⟨wh, mk, h⟩ := h; exact ⟨wh, mk, h.drewN n⟩
theorem RLogAt.drewN {w : World} {q p g : Nat} {vt : Value} {vs : List Value} {l : Slo.L} (h : RLogAt w q p g vt vs l) (n : Nat) : RLogAt (w.drewN n) q p g vt vs l :=
  h.below (Below.drewN (Below.refl w.heap.size w) n) (Nat.le_refl _)
/-- Append, on a log. -/
theorem rappend_any {w : World} {q r gr : Nat} {vt : Value} {vs : List Value} {l : Slo.L} {d : Dk.D} (h : RLogAt w q r gr vt vs l) (hD : RefD w r gr d) (hok : Dk.Ok d) (hfd : 128 * (l.from_ + l.sectors) ≤ d.b.length) (v : Value) (t : List (BitVec 8)) (hs : SlB w v t)
    (hap : Apart v t [r, gr, q]) : Calls Try.prog 57 #[.pointer (some ⟨q, 0, none⟩), v] w (RAppR w q r gr vt vs l d t) := by
  obtain ⟨a, cap, rfl⟩ := hs.len
  have hlen : t.length ≤ 9223372036854775807 := by
    have := hs.bounds
    unfold maxLen at this
    omega
  have hno : ∀ c : Int, Slo.append d l t = (d, l, c) → (∀ {P : Prop}, P → P) → Calls Try.prog 57 #[.pointer (some ⟨q, 0, none⟩), .slice a t.length cap] w (fun e w' => e = .returned (.int .i64 c) ∧ ∃ m, w' = w.drewN m) → Calls Try.prog 57 #[.pointer (some ⟨q, 0, none⟩), .slice a t.length cap] w (RAppR w q r gr vt vs l d t) := by
    intro c hc _ hC
    refine hC.mono ?_
    rintro e w' ⟨rfl, m, rfl⟩
    unfold RAppR
    rw [hc]
    exact ⟨rfl, hD.drewN m, ⟨vt, vs, h.drewN m, fun k hk => .inl hk, Older.refl _ _⟩, Kept.ofBelow (Below.drewN (Below.refl w.heap.size w) m) (Nat.le_refl _)⟩
  by_cases h1 : (l.dead || d.off) = true
  · refine hno 12 (by unfold Slo.append; rw [if_pos h1]) id (rappend_no h hD a _ cap 12 (.inl ⟨h1, rfl⟩) hlen)
  · have hdo : l.dead = false ∧ d.off = false := by
      cases hx : l.dead <;> cases hy : d.off <;> simp_all
    by_cases h2 : 262144 < t.length
    · exact hno 3 (by unfold Slo.append; rw [if_neg h1, if_pos h2]) id (rappend_no h hD a _ cap 3 (.inr (.inl ⟨hdo, h2, rfl⟩)) hlen)
    · by_cases h3 : l.sectors - l.used < Slo.taken t.length
      · exact hno 7 (by unfold Slo.append; rw [if_neg h1, if_neg h2, if_pos h3]) id (rappend_no h hD a _ cap 7 (.inr (.inr ⟨hdo, by omega, h3, rfl⟩)) hlen)
      · exact rappend_go h hD hok hfd a _ cap t hs rfl hap hdo.1 hdo.2 (by omega) (by omega)

/-- What Open returns. -/
def ROpenR (w : World) (p g : Nat) (r : Option Slo.L × Int) (e : Ending) (w' : World) : Prop :=
  Below w.heap.size w w' ∧ match r.1 with
  | none => e = .returned (.tuple #[.pointer none, .int .i64 r.2])
  | some l => r.2 = 0 ∧ ∃ q vt vs, e = .returned (.tuple #[.pointer (some ⟨q, 0, none⟩), .int .i64 0]) ∧ RLogAt w' q p g vt vs l ∧ w.heap.size ≤ q ∧ (∀ k, vt.ownBlock = some k → w.heap.size ≤ k) ∧ ∀ i k, (vs.getD i undef).ownBlock = some k → w.heap.size ≤ k

namespace Slo
/-- The length's bytes, so far. -/
def hval (C : List (BitVec 8)) : Nat → Nat
  | 0 => 0
  | k + 1 => 256 * hval C k + (C.getD (k + 1) 0).toNat
theorem hval_lt (C : List (BitVec 8)) : ∀ k, hval C k < 256 ^ k
  | 0 => by simp [hval]
  | k + 1 => by
    have h1 := hval_lt C k
    have h2 := (C.getD (k + 1) 0).isLt
    simp only [hval]
    rw [Nat.pow_succ]
    omega
theorem hval_3 (C : List (BitVec 8)) (k : Nat) (hk : k ≤ 3) : hval C k < 16777216 := by
  have h1 := hval_lt C k
  have h2 : 256 ^ k ≤ 256 ^ 3 := Nat.pow_le_pow_right (by decide) hk
  omega
theorem hval_4 (C : List (BitVec 8)) : hval C 4 = Num.val4 (C.drop 1) := by
  rw [val4_bytes]
  simp only [hval, Nat.reduceAdd]
  omega
/-- A slot in the region, as it is read off the disk. -/
theorem slot_reg (d : Dk.D) (fr n u : Nat) (hu : u < n) : slot ((region d fr n).drop (128 * u)) =
    if (d.b.drop (128 * (fr + u))).getD 0 0 = 0 then .no else if (d.b.drop (128 * (fr + u))).getD 0 0 ≠ 1 then .bad
    else if 262144 < hval (d.b.drop (128 * (fr + u))) 4 ∨ ((region d fr n).drop (128 * u)).length < 128 * taken (hval (d.b.drop (128 * (fr + u))) 4) then .bad
    else .text (((d.b.drop (128 * (fr + u))).drop 5).take (hval (d.b.drop (128 * (fr + u))) 4)) := by
  have e : (region d fr n).drop (128 * u) = (d.b.drop (128 * (fr + u))).take (128 * (n - u)) := by
    unfold region
    rw [List.drop_take, List.drop_drop, show 128 * fr + 128 * u = 128 * (fr + u) by omega, show 128 * n - 128 * u = 128 * (n - u) by omega]
  generalize hB : (region d fr n).drop (128 * u) = B at e ⊢
  generalize d.b.drop (128 * (fr + u)) = C at e ⊢
  have hg : ∀ j, j < 128 → B.getD j 0 = C.getD j 0 := fun j hj => by rw [e]; exact Num.getD_take C _ j (by omega)
  have hv : hval C 4 = Num.val4 (B.drop 1) := by
    rw [val4_bytes, hg 1 (by omega), hg 2 (by omega), hg 3 (by omega), hg 4 (by omega)]
    simp only [hval, Nat.reduceAdd]
    omega
  rw [hv, ← hg 0 (by omega)]
  unfold slot
  by_cases h0 : B.getD 0 0 = 0
  · rw [if_pos h0, if_pos h0]
  rw [if_neg h0, if_neg h0]
  by_cases h1 : B.getD 0 0 ≠ 1
  · rw [if_pos h1, if_pos h1]
  rw [if_neg h1, if_neg h1]
  by_cases h2 : 262144 < Num.val4 (B.drop 1) ∨ B.length < 128 * taken (Num.val4 (B.drop 1))
  · rw [if_pos h2, if_pos h2]
  rw [if_neg h2, if_neg h2]
  have hg := taken_ge (Num.val4 (B.drop 1))
  generalize Num.val4 (B.drop 1) = V at h2 hg ⊢
  have hl : B.length ≤ 128 * (n - u) := by rw [e, List.length_take]; omega
  rw [e, List.drop_take, List.take_take, Nat.min_eq_left (by omega)]
end Slo
/-- How much of a log is used, as it lies in memory. -/
def usedOf (w : World) (q : Nat) : Nat := match w.cell? ⟨q, 4, none⟩ with
  | some (.int _ n) => n.toNat
  | _ => 0
theorem RLogAt.usedOf {w : World} {q p g : Nat} {vt : Value} {vs : List Value} {l : Slo.L} (h : RLogAt w q p g vt vs l) : usedOf w q = l.used := by
  unfold Go.Proofs.Ytdnjjemdnlegdaa.usedOf
  rw [h.c4]
  simp
end Go.Proofs.Ytdnjjemdnlegdaa
namespace Go.Proofs.Ytdnjjemdnlegdaa
set_option linter.unusedVariables false
set_option linter.unusedSimpArgs false
open Go Go.RowKit

theorem rlog_new (w : World) (r gr fr n : Nat) (hr : r < w.heap.size) (hg : gr < w.heap.size) (h1 : fr ≤ 16384) (h2 : n ≤ 16384) :
    RLogAt (w.alloc (.cells #[.pointer (some ⟨r, 0, none⟩), .int .i64 (fr : Nat), .int .i64 (n : Nat), .slice none 0 0, .int .i64 0, .bool false] 72)) w.heap.size r gr (.slice none 0 0) [] ⟨fr, n, [], 0, false⟩ :=
  ⟨heap_alloc_new w _, ⟨by omega, by omega⟩, Tx.nil _ _, by simp; omega⟩

set_option maxRecDepth 100000 in
set_option maxHeartbeats 8000000 in
theorem ropen_go {w : World} {r gr : Nat} {d : Dk.D} (hD : RefD w r gr d) (fr n : Nat) (k1 : fr ≤ 1000) (k2 : 1 ≤ n) (k3 : n ≤ 1000) (k4 : 128 * (fr + n) ≤ d.b.length) (hoff : d.off = false) :
    Calls Try.prog 56 #[.pointer (some ⟨r, 0, none⟩), .int .i64 (fr : Int), .int .i64 (n : Int)] w (ROpenR w r gr (if (Slo.parse n (Slo.region d fr n)).2 = true then (some ⟨fr, n, (Slo.parse n (Slo.region d fr n)).1, Slo.used (Slo.parse n (Slo.region d fr n)).1, false⟩, 0) else (none, 9))) := by
  have hltr := hD.ltr
  have hltg := hD.ltg
  have HD := Lib.hid hD
  have HSR := Lib.hid (fun u (hu : u < n) => Slo.slot_reg d fr n u hu)
  have HRL := Lib.hid (Slo.region_length d fr n k4)
  obtain ⟨R, hR⟩ : ∃ R : Option Slo.L × Int, (if (Slo.parse n (Slo.region d fr n)).2 = true then (some ⟨fr, n, (Slo.parse n (Slo.region d fr n)).1, Slo.used (Slo.parse n (Slo.region d fr n)).1, false⟩, 0) else (none, 9)) = R := ⟨_, rfl⟩
  rw [hR]
  have HR := Lib.hid hR
  obtain ⟨b, hb⟩ : ∃ b, Slo.region d fr n = b := ⟨_, rfl⟩
  rw [hb] at HSR HRL HR
  clear hR hb
  obtain ⟨wh, mk, hA⟩ := hD
  have c0 := hA.c0
  have c1 := hA.c1
  have hsm := hA.small
  clear hA
  obtain ⟨L, hLL⟩ : ∃ L, d.b.length = L := ⟨_, rfl⟩
  have HLL := Lib.hid hLL
  rw [hLL] at c0 k4 hsm
  rw [hoff] at c1
  have q1 : IntKind.i64.wrap ((fr : Int) + n) = (fr : Int) + n := by rw [IntKind.wrap_i64]; omega
  have q2 : IntKind.i64.wrap (128 * ((fr : Int) + n)) = 128 * ((fr : Int) + n) := by rw [IntKind.wrap_i64]; omega
  have h1 : ¬ (fr : Int) < 0 := by omega
  have h2 : ¬ (n : Int) < 1 := by omega
  have h3 : ¬ (L : Int) < 128 * ((fr : Int) + n) := by omega
  have HLT := Lib.hid (And.intro hltr hltg)
  clear hLL hoff
  go_enter Try.func56, Try.ntmps56
  go_wp2
  go_loopw [9] (fun s wr => ∃ (ts : List (List (BitVec 8))) (vt : Value) (vs : List Value), Hid (Slo.Reach b ts) ∧ Hid (RLogAt wr w.heap.size r gr vt vs ⟨fr, n, ts, Slo.used ts, false⟩) ∧ Hid (Below w.heap.size w wr) ∧ Hid (∀ k, vt.ownBlock = some k → w.heap.size ≤ k) ∧ Hid (∀ i k, (vs.getD i undef).ownBlock = some k → w.heap.size ≤ k)) (fun _ wr => n - usedOf wr w.heap.size)
  case atStart =>
    refine ⟨[], .slice none 0 0, [], Lib.hid (Slo.Reach.nil b), Lib.hid (rlog_new w r gr fr n hltr hltg (by omega) (by omega)), Lib.hid (Below.alloc (Below.refl _ _) (Nat.le_refl _) _), Lib.hid (fun k e => by simp [Value.ownBlock] at e), Lib.hid (fun i k e => by simp at e; cases e)⟩
  case round =>
    clear c0 c1
    obtain ⟨ts, vt, vs, HRE, HL, HB, HV, HX⟩ := hrel
    have HUO := Lib.hid HL.out.usedOf
    have hre := HRE.out
    have hul := hre.1
    have hug := Slo.used_ge ts
    rw [HRL.out] at hul
    obtain ⟨u, hu⟩ : ∃ u, Slo.used ts = u := ⟨_, rfl⟩
    have HU := Lib.hid hu
    have hL := HL.out
    have c4 : wr.cell? ⟨w.heap.size, 4, none⟩ = some (.int .i64 (u : Int)) := by rw [← hu]; exact hL.c4
    rw [hu] at hul hug
    have HFIN := Lib.hid (show (Slo.slot (b.drop (128 * u)) = .no ∨ n ≤ u) → R = (some ⟨fr, n, ts, Slo.used ts, false⟩, 0) by
      intro h
      have hp := hre.no (by rw [hu, HRL.out]; exact h.imp id (fun h => by omega)) n (by omega)
      rw [← HR.out, hp]
      rfl)
    have HBAD := Lib.hid (show u < n → Slo.slot (b.drop (128 * u)) = .bad → R = (none, 9) by
      intro h h2
      have hp := hre.bad (by rw [hu, HRL.out]; omega) (by rw [hu]; exact h2) n (by omega)
      rw [← HR.out, hp]
      rfl)
    clear hre hL hu
    by_cases hlt : u < n
    · have hs0 := HSR.out u hlt
      have hra := HD.out.below HB.out (Nat.le_refl _)
      obtain ⟨wh', mk', hA⟩ := hra
      have c0 := hA.c0
      rw [HLL.out] at c0
      have hsl := hA.sl.drop (128 * (fr + u)) (by rw [HLL.out]; omega)
      rw [HLL.out, Nat.zero_add] at hsl
      clear hA
      obtain ⟨o, ho⟩ : ∃ o, 128 * (fr + u) = o := ⟨_, rfl⟩
      rw [ho] at hsl hs0
      have hoL : o + 128 * (n - u) ≤ L := by omega
      have hol : (o : Int) ≤ L := by omega
      have hoN : o ≤ L := by omega
      have hcl : (d.b.drop o).length = L - o := by rw [List.length_drop, HLL.out]
      generalize d.b.drop o = C at hsl hs0 hcl
      have HSL := Lib.hid hsl
      have HS0 := Lib.hid hs0
      have HCL := Lib.hid hcl
      have q1 : IntKind.i64.wrap ((fr : Int) + u) = (fr : Int) + u := by rw [IntKind.wrap_i64]; omega
      have q2 : IntKind.i64.wrap (128 * ((fr : Int) + u)) = (o : Int) := by rw [IntKind.wrap_i64]; omega
      have cx := hsl.cell 0 (by omega)
      rw [Nat.add_zero] at cx
      have hx0 : C.getD 0 0 = 0 ↔ (C.getD 0 0).toNat = 0 := ⟨fun h => by rw [h]; rfl, fun h => BitVec.eq_of_toNat_eq h⟩
      have hx1 : C.getD 0 0 = 1 ↔ (C.getD 0 0).toNat = 1 := ⟨fun h => by rw [h]; rfl, fun h => BitVec.eq_of_toNat_eq h⟩
      have hxl := (C.getD 0 0).isLt
      unfold byteV bv at cx
      generalize (C.getD 0 0).toNat = x0 at cx hx0 hx1 hxl
      have HX0 := Lib.hid (And.intro hx0 hx1)
      clear hsl hs0 hcl hx0 hx1 ho
      by_cases he0 : x0 = 0
      · have HF := Lib.hid (HFIN.out (.inl (by rw [HS0.out, if_pos (HX0.out.1.2 he0)])))
        -- ARM A0
        subst he0
        have cx : wr.cell? ⟨gr, o, none⟩ = some (.int .u8 0) := cx
        go_wp2
        go_quiet (fail)
        go_wp2
        go_ret2
        exact ⟨Below.drewN HB.out _, by rw [HF.out]; exact ⟨rfl, _, vt, vs, rfl, HL.out.drewN _, Nat.le_refl _, HV.out, HX.out⟩⟩
        -- END A0
      · have he1 : ¬ (x0 : Int) = 0 := by omega
        go_wp2
        go_quiet (fail)
        obtain ⟨w1, hw1⟩ : ∃ w1, wr.drewN nq = w1 := ⟨_, rfl⟩
        rw [hw1]
        have HB1 := Lib.hid (show Below w.heap.size w w1 by rw [← hw1]; exact Below.drewN HB.out _)
        have HL1 := Lib.hid (show RLogAt w1 w.heap.size r gr vt vs ⟨fr, n, ts, Slo.used ts, false⟩ by rw [← hw1]; exact HL.out.drewN _)
        have HSL1 := Lib.hid (show SlB w1 (.slice (some ⟨gr, o, none⟩) (L - o) (L - o)) C by rw [← hw1]; exact HSL.out.drewN _)
        have hcx : w1.cell? ⟨gr, o, none⟩ = some (.int .u8 (x0 : Int)) := by rw [← hw1]; exact cx
        clear c4 c0 cx hw1 HB HL HSL
        go_wp2
        go_loop [10, 11] (fun s10 s11 => ∃ i v : Nat, 1 ≤ i ∧ i ≤ 5 ∧ s10 = .int .i64 (v : Int) ∧ s11 = .int .i64 (i : Int) ∧ Hid (v = Slo.hval C (i - 1))) (fun _ s11 => 5 - (intOf s11).toNat)
        case atStart => exact ⟨1, 0, by omega, by omega, rfl, rfl, Lib.hid rfl⟩
        case round =>
          obtain ⟨i, v, hi1, hi5, rfl, rfl, HVI⟩ := hrel
          by_cases hi : i < 5
          · have hv := Slo.hval_3 C (i - 1) (by omega)
            -- ARM A1
            rw [← HVI.out] at hv
            have cy := HSL1.out.cell i (by rw [HCL.out]; omega)
            have hnx : Slo.hval C i = 256 * v + (C.getD i 0).toNat := by
              obtain ⟨j, rfl⟩ : ∃ j, i = j + 1 := ⟨i - 1, by omega⟩
              rw [HVI.out, Nat.add_sub_cancel]
              rfl
            have hy := (C.getD i 0).isLt
            unfold byteV bv at cy
            generalize (C.getD i 0).toNat = y at cy hnx hy
            have HNX := Lib.hid hnx
            have q3 : IntKind.i64.wrap (256 * (v : Int)) = 256 * (v : Int) := by rw [IntKind.wrap_i64]; omega
            have q4 : IntKind.i64.wrap (y : Int) = (y : Int) := by rw [IntKind.wrap_i64]; omega
            have q5 : IntKind.i64.wrap (256 * (v : Int) + y) = 256 * (v : Int) + y := by rw [IntKind.wrap_i64]; omega
            have q6 : IntKind.i64.wrap ((i : Int) + 1) = (i : Int) + 1 := by rw [IntKind.wrap_i64]; omega
            have hile : (i : Int) ≤ 4 := by omega
            have hio : (i : Int) < ((L - o : Nat) : Int) := by omega
            have hio2 : i < L - o := by omega
            go_wp2
            exact ⟨⟨i + 1, 256 * v + y, by omega, by omega, by go_num, by go_num, Lib.hid (by rw [Nat.add_sub_cancel]; exact HNX.out.symm)⟩, by simp [intOf]; omega⟩
            -- END A1
          · obtain rfl : i = 5 := by omega
            have hvb := Slo.hval_lt C 4
            have hv4 : Slo.hval C 4 = v := HVI.out.symm
            have hs1 := HS0.out
            rw [hv4] at hs1 hvb
            rw [if_neg (fun h => he0 (HX0.out.1.1 h))] at hs1
            rw [show (b.drop (128 * u)).length = 128 * (n - u) by rw [List.length_drop, HRL.out]; omega] at hs1
            have HTK := Lib.hid (fun (h : v ≤ 1000000000) w => rtaken_any v h w)
            have htg := Slo.taken_ge v
            have htp := Slo.taken_pos v
            have hsz : ((C.drop 5).take v).length = min v (L - o - 5) := by rw [List.length_take, List.length_drop, HCL.out]
            obtain ⟨t, ht⟩ : ∃ t, (C.drop 5).take v = t := ⟨_, rfl⟩
            rw [ht] at hs1 hsz
            have HT := Lib.hid ht
            have HTV := Lib.hid (show t.length = v → Slo.taken t.length = Slo.taken v from fun h => by rw [h])
            obtain ⟨tk, htk⟩ : ∃ tk, Slo.taken v = tk := ⟨_, rfl⟩
            rw [htk] at HTK htg htp hs1 HTV
            have c4 : w1.cell? ⟨w.heap.size, 4, none⟩ = some (.int .i64 (u : Int)) := by rw [← HU.out]; exact HL1.out.c4
            have q6 : IntKind.i64.wrap ((n : Int) - u) = (n : Int) - u := by rw [IntKind.wrap_i64]; omega
            have hi6 : ¬ ((5 : Nat) : Int) ≤ 4 := by omega
            have hio : (0 : Int) < ((L - o : Nat) : Int) := by omega
            have hio2 : 0 < L - o := by omega
            clear hv4 ht htk
            by_cases he2 : x0 = 1
            · rw [if_neg (fun h => h (HX0.out.2.2 he2))] at hs1
              subst he2
              have hcx : w1.cell? ⟨gr, o, none⟩ = some (.int .u8 1) := hcx
              by_cases hv2 : (v : Int) ≤ 262144
              · have HTK := Lib.hid (fun w => HTK.out (by omega) w)
                by_cases hf : n - u < tk
                · have HF := Lib.hid (HBAD.out hlt (by rw [hs1, if_pos (.inr (by omega))]))
                  -- ARM A2
                  have hf2 : decide ((n : Int) - u < tk) = true := decide_eq_true (by omega)
                  have hv3 : decide ((262144 : Int) < v) = false := decide_eq_false (by omega)
                  clear hs1 htg htp hsz hvb
                  go_wp2
                  go_quiet ((go_at_call 67; with_reducible exact Calls.quiet_of_same (HTK.out _)))
                  go_wp2
                  go_ret2
                  exact ⟨Below.drewN HB1.out _, by rw [HF.out]; rfl⟩
                  -- END A2
                · have HST := Lib.hid (show Slo.slot (b.drop (128 * u)) = .text t by rw [hs1, if_neg (by omega)])
                  -- ARM A3
                  have hf2 : decide ((n : Int) - u < tk) = false := decide_eq_false (by omega)
                  have hv3 : decide ((262144 : Int) < v) = false := decide_eq_false (by omega)
                  have htl : t.length = v := by omega
                  have HFT := Lib.hid (show v + 5 ≤ L - o ∧ v ≤ 262144 ∧ tk ≤ n - u ∧ 1 ≤ tk ∧ 128 ≤ L - o by omega)
                  have HTL := Lib.hid htl
                  clear hs1 htg htp hsz hvb htl hf
                  go_wp2
                  go_quiet ((go_at_call 67; with_reducible exact Calls.quiet_of_same (HTK.out _)))
                  obtain ⟨w2, hw2⟩ : ∃ w2, w1.drewN nq = w2 := ⟨_, rfl⟩
                  rw [hw2]
                  have HB2 := Lib.hid (show Below w.heap.size w w2 by rw [← hw2]; exact Below.drewN HB1.out _)
                  have HL2 := Lib.hid (show RLogAt w2 w.heap.size r gr vt vs ⟨fr, n, ts, Slo.used ts, false⟩ by rw [← hw2]; exact HL1.out.drewN _)
                  obtain ⟨e, he⟩ : ∃ e, 5 + v = e := ⟨_, rfl⟩
                  have HSd := Lib.hid (show SlB w2 (.slice (some ⟨gr, o + 5, none⟩) (e - 5) (L - o - 5)) t by rw [← hw2, ← HT.out, show e - 5 = v by omega]; exact ((HSL1.out.drewN nq).drop 5 (by have := HFT.out; omega)).take v (by have := HFT.out; omega))
                  have q7 : IntKind.i64.wrap (5 + (v : Int)) = (e : Int) := by rw [IntKind.wrap_i64]; omega
                  have q8 : (e : Int) ≤ ((L - o : Nat) : Int) := by have := HFT.out; omega
                  have q9 : e ≤ L - o := by omega
                  have q10 : (5 : Int) ≤ e := by omega
                  have q11 : 5 ≤ e := by omega
                  have HEV := Lib.hid he
                  have q12 : ¬ L - o = 5 := by have := HFT.out; omega
                  have hlw2 := HL2.out.lt
                  have HVL := Lib.hid (show vs.length ≤ 1000000 by have h1 := HL2.out.tx.len; have h2 := HL2.out.small.2.2; have h3 : n ≤ 1000 := k3; have h4 : Slo.used ts ≤ n := h2.1; have h5 : ts.length ≤ Slo.used ts := h2.2; have h6 : vs.length = ts.length := h1; omega)
                  have c3 : w2.cell? ⟨w.heap.size, 3, none⟩ = some vt := HL2.out.c3
                  clear he hcx c4 hw2 HL1 HSL1 HB1 hf2 hv3 hv2 hsm k4 hoL hi1 hi5 hi he0 he1 hug hul k1 k2 k3 h1 h2 h3 hlt hi6 hio hio2 hol hoN q1 q2 q6 hxl
                  go_upto_region 19 with (first
                    | (at_builtin; refine wpList_append_b rfl (.tmp 93) (.tmp 97) 22 5 rfl Try.underlying22 info_u8 w2.heap.size (.slice none 0 0) [] (OwnB.nil _ _ _) rfl _ t HSd.out rfl (by rw [HTL.out]; have := HFT.out; simp; omega) (Nat.le_refl _) ?_; intro v3 w3 ho hg hn'; obtain ⟨a3, cp3, rfl⟩ := ho.sl.len; have HOd := Lib.hid ho; have HBd := Lib.hid ((Below.refl w2.heap.size w2).grown hg (Nat.le_refl _) (fun k e => by simp [Value.ownBlock] at e)); have d3 : w3.cell? ⟨w.heap.size, 3, none⟩ = some vt := (HBd.out.cell (p := ⟨w.heap.size, 3, none⟩) hlw2).trans c3; clear ho hg hn')
                    | (at_builtin; (refine wpList_append_l1 rfl (.tmp 103) (.tmp 105) 47 22 rfl Try.underlying47 info_sl vt vs ((show OwnL 22 0 w3 vt vs from HL2.out.tx.own.below HBd.out (Nat.le_refl _)).alloc _) (by rfl) w3.heap.size (.slice a3 t.length cp3) (by rfl) (cell_new1 _ _ _) rfl HVL.out ?_); intro v5 w5 ho hg hat; (have hrq := rapp_row HL2.out HBd.out hg); (have e3 : w5.cell? ⟨w.heap.size, 3, none⟩ = some vt := cell_of_row w5 w.heap.size 3 _ _ _ hrq); (have g3 : w5.frozen? ⟨w.heap.size, 3, none⟩ = false := frozen_of_row w5 w.heap.size 3 _ _ hrq); (have HO5 := Lib.hid ho); (have HG5 := Lib.hid hg); (have HAT := Lib.hid hat); (obtain ⟨g5, cap5, hv5⟩ := ho.form1); (subst hv5); (clear ho hg hat hrq)))
                  have hE := rapp_end HL2.out (Nat.lt_of_lt_of_le HLT.out.1 HB2.out.size) (Nat.lt_of_lt_of_le HLT.out.2 HB2.out.size) (show OwnB 5 w2.heap.size w3 (.slice a3 t.length cp3) t from HOd.out) HBd.out HG5.out HO5.out HAT.out
                  obtain ⟨w6, hw6⟩ : ∃ w6, w5.setCell ⟨w.heap.size, 3, none⟩ (.slice (some ⟨g5, 0, none⟩) (vs.length + 1) cap5) = w6 := ⟨_, rfl⟩
                  rw [hw6] at hE ⊢
                  have HE := Lib.hid hE
                  have c4 : w6.cell? ⟨w.heap.size, 4, none⟩ = some (.int .i64 (u : Int)) := by rw [← HU.out]; exact cell_of_row w6 w.heap.size 4 _ _ _ hE.1
                  have f4 : w6.frozen? ⟨w.heap.size, 4, none⟩ = false := frozen_of_row w6 w.heap.size 4 _ _ hE.1
                  have q13 : IntKind.i64.wrap ((u : Int) + tk) = (u : Int) + tk := by
                    rw [IntKind.wrap_i64]
                    have h1 := HL2.out.small.2
                    have h2 : Slo.used ts ≤ n := h1.2.1
                    have h3 : n ≤ 16384 := h1.1
                    have := HU.out
                    have := HFT.out
                    omega
                  clear hE hw6 g3 e3 d3 c3 q7 q8 q9 q10 q11 q12
                  go_region_with (go_at_call 67; refine (HTK.out _).mono ?_; rintro e w' ⟨rfl, rfl⟩)
                  all_goals
                    go_wp2
                    have hF := rapp_fin HE.out.1 HE.out.2.1 HL2.out.ne HL2.out.small u tk HU.out (show tk ≤ n - u by have := HFT.out; omega) HFT.out.2.2.2.1
                    have hut : Slo.used (ts ++ [t]) = Slo.used ts + tk := by have := HTV.out HTL.out; rw [Slo.used_append]; simp [Slo.used, this]
                    refine ⟨⟨ts ++ [t], _, _, Lib.hid (HRE.out.next (by rw [HU.out, HRL.out]; have := HFT.out; omega) (by rw [HU.out]; exact HST.out)), Lib.hid (by rw [hut]; exact hF), Lib.hid ?_, Lib.hid ?_, Lib.hid ?_⟩, ?_⟩
                    · have hk := (HE.out.2.2.2.setCell (b := w.heap.size) (o := 4) (s := none) (by simp) (.int .i64 ((u : Int) + tk))).drew
                      exact HB2.out.trans (hk.toBelow (fun k hm => by
                        simp only [List.mem_append, List.mem_singleton, Option.mem_toList] at hm
                        rcases hm with rfl | hm
                        · exact Nat.le_refl _
                        · exact HV.out k hm) HB2.out.size)
                    · intro k e
                      rcases HE.out.2.2.1 k e with h1 | h1
                      · exact HV.out k h1
                      · exact Nat.le_trans HB2.out.size h1
                    · intro i k e
                      rcases Older.more (w := w2) (vs := vs) (u := .slice a3 t.length cp3) (fun k e => (World.ownsRow.lt HOd.out k e).1) i k e with ⟨j, h1⟩ | h1
                      · exact HX.out j k h1
                      · exact Nat.le_trans HB2.out.size h1
                    · have h1 := hF.usedOf
                      have h2 := HUO.out
                      have h3 := HU.out
                      have h4 := HFT.out
                      show n - usedOf _ _ < n - usedOf _ _
                      rw [h1, h2]
                      show n - (Slo.used ts + tk) < n - Slo.used ts
                      omega
                  -- END A3
              · have HF := Lib.hid (HBAD.out hlt (by rw [hs1, if_pos (.inl (by omega))]))
                -- ARM A4
                have hv3 : decide ((262144 : Int) < v) = true := decide_eq_true (by omega)
                clear hs1 htg htp hsz hvb
                go_wp2
                go_quiet (fail)
                go_wp2
                go_ret2
                exact ⟨Below.drewN HB1.out _, by rw [HF.out]; rfl⟩
                -- END A4
            · have HF := Lib.hid (HBAD.out hlt (by rw [hs1, if_pos (fun h => he2 (HX0.out.2.1 h))]))
              -- ARM A5
              have he3 : ((x0 : Int) != 1) = true := by rw [bne_iff_ne]; omega
              clear hs1 htg htp hsz hvb
              go_wp2
              go_quiet (fail)
              go_wp2
              go_ret2
              exact ⟨Below.drewN HB1.out _, by rw [HF.out]; rfl⟩
              -- END A5
    · have HF := Lib.hid (HFIN.out (.inr (by omega)))
      -- ARM A6
      have hlt2 : ¬ (u : Int) < n := by omega
      go_wp2
      go_ret2
      exact ⟨HB.out, by rw [HF.out]; exact ⟨rfl, _, vt, vs, rfl, HL.out, Nat.le_refl _, HV.out, HX.out⟩⟩
      -- END A6
end Go.Proofs.Ytdnjjemdnlegdaa
namespace Go.Proofs.Ytdnjjemdnlegdaa
set_option linter.unusedVariables false
set_option linter.unusedSimpArgs false
open Go Go.RowKit

/-- A thing in memory that lies in none of the blocks F. -/
structure Part (Φ : (Nat → Prop) → World → Prop) : Prop where
  others : ∀ {F F' : Nat → Prop} {w : World}, Φ F w → (∀ k, k < w.heap.size → F' k → F k) → Φ F' w
  kept : ∀ {F : Nat → Prop} {w w' : World} {K : List Nat}, Φ F w → Kept K w w' → (∀ k, k ∈ K → F k) → Φ F w'
theorem Part.below {Φ : (Nat → Prop) → World → Prop} (h : Part Φ) {F : Nat → Prop} {w w' : World} (hf : Φ F w) (hb : Below w.heap.size w w') : Φ F w' :=
  h.kept (K := []) hf (Kept.ofBelow hb (Nat.le_refl _)) (fun k hk => absurd hk (by simp))
theorem Kept.only {l : List Nat} {w w' : World} (h : Kept l w w') : Kept (l.filter (fun k => decide (k < w.heap.size))) w w' :=
  ⟨h.1, h.2.1, h.2.2.1, h.size, fun k hk hl => h.block k hk fun hm => hl (List.mem_filter.2 ⟨hm, decide_eq_true hk⟩)⟩
/-- Both, apart from one another and from the blocks A. -/
def Duo (A : Nat → Prop) (Φ Ψ : (Nat → Prop) → World → Prop) (w : World) : Prop :=
  ∃ F G : Nat → Prop, Φ F w ∧ Ψ G w ∧ (∀ k, k < w.heap.size → F k ∨ G k) ∧ (∀ k, A k → F k ∧ G k) ∧ (∀ k, F k → k < w.heap.size) ∧ (∀ k, G k → k < w.heap.size)
section
variable {A : Nat → Prop} {Φ Ψ : (Nat → Prop) → World → Prop} {w : World}
theorem Duo.swap (h : Duo A Φ Ψ w) : Duo A Ψ Φ w := by
  obtain ⟨F, G, h1, h2, h3, h4, h5, h6⟩ := h
  exact ⟨G, F, h2, h1, fun k hk => (h3 k hk).symm, fun k hk => (h4 k hk).symm, h6, h5⟩
theorem Duo.lt (h : Duo A Φ Ψ w) (k : Nat) (hk : A k) : k < w.heap.size := by
  obtain ⟨F, G, h1, h2, h3, h4, h5, h6⟩ := h
  exact h5 k (h4 k hk).1
theorem Duo.less {A' : Nat → Prop} (h : Duo A Φ Ψ w) (ha : ∀ k, A' k → A k) : Duo A' Φ Ψ w := by
  obtain ⟨F, G, h1, h2, h3, h4, h5, h6⟩ := h
  exact ⟨F, G, h1, h2, h3, fun k hk => h4 k (ha k hk), h5, h6⟩
/-- What the one does. -/
theorem Duo.left (h : Duo A Φ Ψ w) (hΨ : Part Ψ) : ∃ F, Φ F w ∧ (∀ k, F k → k < w.heap.size) ∧ (∀ k, A k → F k) ∧ ∀ (Φ' : (Nat → Prop) → World → Prop) (w' : World), Φ' F w' → Fr F w w' → Duo A Φ' Ψ w' := by
  obtain ⟨F, G, h1, h2, h3, h4, h5, h6⟩ := h
  refine ⟨F, h1, h5, fun k hk => (h4 k hk).1, fun Φ' w' hf hr => ?_⟩
  have hs := hr.size
  obtain ⟨K, hK, hKF⟩ := hr
  refine ⟨F, fun k => G k ∨ (w.heap.size ≤ k ∧ k < w'.heap.size), hf, ?_, fun k hk => ?_, fun k hk => ⟨(h4 k hk).1, .inl (h4 k hk).2⟩, fun k hk => Nat.lt_of_lt_of_le (h5 k hk) hs, fun k hk => ?_⟩
  · refine hΨ.kept (hΨ.others h2 fun k hk hk' => hk'.resolve_right (by omega)) hK.only fun k hk => ?_
    obtain ⟨a, b⟩ := List.mem_filter.1 hk
    exact .inl ((h3 k (of_decide_eq_true b)).resolve_left (hKF k a))
  · by_cases hlt : k < w.heap.size
    · exact (h3 k hlt).imp id .inl
    · exact .inr (.inr ⟨by omega, hk⟩)
  · rcases hk with hk | hk
    · exact Nat.lt_of_lt_of_le (h6 k hk) hs
    · exact hk.2
theorem Duo.right (h : Duo A Φ Ψ w) (hΦ : Part Φ) : ∃ G, Ψ G w ∧ (∀ k, G k → k < w.heap.size) ∧ (∀ k, A k → G k) ∧ ∀ (Ψ' : (Nat → Prop) → World → Prop) (w' : World), Ψ' G w' → Fr G w w' → Duo A Φ Ψ' w' := by
  obtain ⟨G, h1, h2, h3, h4⟩ := h.swap.left hΦ
  exact ⟨G, h1, h2, h3, fun Ψ' w' a b => (h4 Ψ' w' a b).swap⟩
/-- What others do: their new blocks lie apart. -/
theorem Duo.out {w' : World} {K : List Nat} (h : Duo A Φ Ψ w) (hΦ : Part Φ) (hΨ : Part Ψ) (hk : Kept K w w') (hK : ∀ k, k ∈ K → A k) : Duo (fun k => A k ∨ (w.heap.size ≤ k ∧ k < w'.heap.size)) Φ Ψ w' := by
  obtain ⟨F, G, h1, h2, h3, h4, h5, h6⟩ := h
  have hs := hk.size
  refine ⟨fun k => F k ∨ (w.heap.size ≤ k ∧ k < w'.heap.size), fun k => G k ∨ (w.heap.size ≤ k ∧ k < w'.heap.size), hΦ.kept (hΦ.others h1 fun k hk hk' => hk'.resolve_right (by omega)) hk fun k hk => .inl (h4 k (hK k hk)).1,
    hΨ.kept (hΨ.others h2 fun k hk hk' => hk'.resolve_right (by omega)) hk fun k hk => .inl (h4 k (hK k hk)).2, fun k hk => ?_, fun k hk => ?_, fun k hk => ?_, fun k hk => ?_⟩
  · by_cases hlt : k < w.heap.size
    · exact (h3 k hlt).imp .inl .inl
    · exact .inl (.inr ⟨by omega, hk⟩)
  · rcases hk with hk | hk
    · exact ⟨.inl (h4 k hk).1, .inl (h4 k hk).2⟩
    · exact ⟨.inr hk, .inr hk⟩
  · rcases hk with hk | hk
    · exact Nat.lt_of_lt_of_le (h5 k hk) hs
    · exact hk.2
  · rcases hk with hk | hk
    · exact Nat.lt_of_lt_of_le (h6 k hk) hs
    · exact hk.2
theorem Duo.below {w' : World} (h : Duo A Φ Ψ w) (hΦ : Part Φ) (hΨ : Part Ψ) (hb : Below w.heap.size w w') : Duo (fun k => A k ∨ (w.heap.size ≤ k ∧ k < w'.heap.size)) Φ Ψ w' :=
  h.out (K := []) hΦ hΨ (Kept.ofBelow hb (Nat.le_refl _)) (fun k hk => absurd hk (by simp))
end
/-- The one was there, the other comes. -/
theorem Duo.mk {Φ Ψ : (Nat → Prop) → World → Prop} {w w' : World} {B : Nat} (h : Φ (fun k => k < B) w) (hB : B ≤ w.heap.size) (hΦ : Part Φ) (hb : Below w.heap.size w w') (h' : Ψ (fun k => k < w.heap.size) w') : Duo (fun k => k < B) Φ Ψ w' := by
  have hs := hb.size
  refine ⟨fun k => k < B ∨ (w.heap.size ≤ k ∧ k < w'.heap.size), fun k => k < w.heap.size, hΦ.below (hΦ.others h fun k hk hk' => hk'.resolve_right (by omega)) hb, h', fun k hk => ?_, fun k hk => ⟨.inl hk, Nat.lt_of_lt_of_le hk hB⟩, fun k hk => ?_, fun k hk => Nat.lt_of_lt_of_le hk hs⟩
  · by_cases hlt : k < w.heap.size
    · exact .inr hlt
    · exact .inl (.inr ⟨by omega, hk⟩)
  · rcases hk with hk | hk <;> omega
end Go.Proofs.Ytdnjjemdnlegdaa
namespace Go.Proofs.Ytdnjjemdnlegdaa
set_option linter.unusedVariables false
set_option linter.unusedSimpArgs false
open Go Go.RowKit

set_option maxRecDepth 100000 in
theorem ropen_no {w : World} {r gr : Nat} {d : Dk.D} (hD : RefD w r gr d) (fr n c : Int) (k1 : fr ≤ 1000) (k3 : n ≤ 1000) (hc : (fr < 0 ∧ c = 2) ∨ (¬ fr < 0 ∧ n < 1 ∧ c = 2) ∨ (¬ fr < 0 ∧ ¬ n < 1 ∧ (d.b.length : Int) < 128 * (fr + n) ∧ c = 2) ∨ (¬ fr < 0 ∧ ¬ n < 1 ∧ ¬ (d.b.length : Int) < 128 * (fr + n) ∧ d.off = true ∧ c = 12)) :
    Calls Try.prog 56 #[.pointer (some ⟨r, 0, none⟩), .int .i64 fr, .int .i64 n] w fun e w' => e = .returned (.tuple #[.pointer none, .int .i64 c]) ∧ ∃ m, w' = w.drewN m := by
  obtain ⟨wh, mk, hA⟩ := hD
  have c0 := hA.c0
  have c1 := hA.c1
  have hsm := hA.small
  clear hA
  generalize d.b.length = L at c0 hc hsm
  rcases hc with ⟨h1, rfl⟩ | ⟨h1, h2, rfl⟩ | ⟨h1, h2, h3, rfl⟩ | ⟨h1, h2, h3, h4, rfl⟩
  · clear hsm
    go_enter Try.func56, Try.ntmps56
    go_wp2
    go_ret2
    exact ⟨rfl, 0, rfl⟩
  · clear hsm
    go_enter Try.func56, Try.ntmps56
    go_wp2
    go_ret2
    exact ⟨rfl, 0, rfl⟩
  · have q1 : IntKind.i64.wrap (fr + n) = fr + n := by rw [IntKind.wrap_i64]; omega
    have q2 : IntKind.i64.wrap (128 * (fr + n)) = 128 * (fr + n) := by rw [IntKind.wrap_i64]; omega
    clear hsm
    go_enter Try.func56, Try.ntmps56
    go_wp2
    go_ret2
    exact ⟨rfl, 0, rfl⟩
  · have q1 : IntKind.i64.wrap (fr + n) = fr + n := by rw [IntKind.wrap_i64]; omega
    have q2 : IntKind.i64.wrap (128 * (fr + n)) = 128 * (fr + n) := by rw [IntKind.wrap_i64]; omega
    rw [h4] at c1
    clear hsm
    go_enter Try.func56, Try.ntmps56
    go_wp2
    go_ret2
    exact ⟨rfl, 0, rfl⟩
theorem ropen_any {w : World} {r gr : Nat} {d : Dk.D} (hD : RefD w r gr d) (fr n : Int) (k1 : fr ≤ 1000) (k3 : n ≤ 1000) (hm : d.b.length % 128 = 0) :
    Calls Try.prog 56 #[.pointer (some ⟨r, 0, none⟩), .int .i64 fr, .int .i64 n] w (ROpenR w r gr (Slo.open_ d fr n)) := by
  have hno : ∀ c : Int, Slo.open_ d fr n = (none, c) → Calls Try.prog 56 #[.pointer (some ⟨r, 0, none⟩), .int .i64 fr, .int .i64 n] w (fun e w' => e = .returned (.tuple #[.pointer none, .int .i64 c]) ∧ ∃ m, w' = w.drewN m) → Calls Try.prog 56 #[.pointer (some ⟨r, 0, none⟩), .int .i64 fr, .int .i64 n] w (ROpenR w r gr (Slo.open_ d fr n)) := by
    intro c hc hC
    refine hC.mono ?_
    rintro e w' ⟨rfl, m, rfl⟩
    rw [hc]
    exact ⟨Below.drewN (Below.refl _ _) m, rfl⟩
  by_cases h1 : fr < 0
  · exact hno 2 (by unfold Slo.open_; rw [if_pos (.inl h1)]) (ropen_no hD fr n 2 k1 k3 (.inl ⟨h1, rfl⟩))
  by_cases h2 : n < 1
  · exact hno 2 (by unfold Slo.open_; rw [if_pos (.inr (.inl h2))]) (ropen_no hD fr n 2 k1 k3 (.inr (.inl ⟨h1, h2, rfl⟩)))
  by_cases h3 : (d.b.length : Int) < 128 * (fr + n)
  · exact hno 2 (by unfold Slo.open_; rw [if_pos (by omega)]) (ropen_no hD fr n 2 k1 k3 (.inr (.inr (.inl ⟨h1, h2, h3, rfl⟩))))
  have hb : ¬ (fr < 0 ∨ n < 1 ∨ ((d.b.length / 128 : Nat) : Int) < n ∨ ((d.b.length / 128 : Nat) : Int) - n < fr) := by omega
  by_cases h4 : d.off = true
  · exact hno 12 (by unfold Slo.open_; rw [if_neg hb, if_pos h4]) (ropen_no hD fr n 12 k1 k3 (.inr (.inr (.inr ⟨h1, h2, h3, h4, rfl⟩))))
  obtain ⟨f, rfl⟩ : ∃ f : Nat, fr = f := ⟨fr.toNat, by omega⟩
  obtain ⟨m, rfl⟩ : ∃ m : Nat, n = m := ⟨n.toNat, by omega⟩
  have := ropen_go hD f m (by omega) (by omega) (by omega) (by omega) (by simpa using h4)
  unfold Slo.open_
  rw [if_neg hb, if_neg h4]
  simpa using this

/-- The reference's disk and a log on it, that lie in none of the blocks F. -/
def RDL (F : Nat → Prop) (w : World) (r gr q : Nat) (d : Dk.D) (l : Slo.L) : Prop :=
  ∃ vt vs, RefD w r gr d ∧ RLogAt w q r gr vt vs l ∧ (¬ F r ∧ ¬ F gr ∧ ¬ F q) ∧ (∀ k, vt.ownBlock = some k → ¬ F k) ∧ (∀ x ∈ l.texts, x.length ≤ 262144) ∧ ∀ i k, (vs.getD i undef).ownBlock = some k → ¬ F k
section
variable {F : Nat → Prop} {w w' : World} {r gr q : Nat} {d : Dk.D} {l : Slo.L}
theorem RDL.lt (h : RDL F w r gr q d l) : r < w.heap.size ∧ gr < w.heap.size ∧ q < w.heap.size := by
  obtain ⟨vt, vs, h1, h2, h3, h4, h5, h6⟩ := h
  exact ⟨h1.ltr, h1.ltg, h2.lt⟩
theorem RDL.disk (h : RDL F w r gr q d l) : RefD w r gr d := by
  obtain ⟨vt, vs, h1, h2, h3, h4, h5, h6⟩ := h
  exact h1
theorem RDL.ge (h : RDL F w r gr q d l) : ¬ F r ∧ ¬ F gr ∧ ¬ F q := by
  obtain ⟨vt, vs, h1, h2, h3, h4, h5, h6⟩ := h
  exact h3
theorem RDL.short (h : RDL F w r gr q d l) : ∀ x ∈ l.texts, x.length ≤ 262144 := by
  obtain ⟨vt, vs, h1, h2, h3, h4, h5, h6⟩ := h
  exact h5
theorem RDL.small (h : RDL F w r gr q d l) : l.from_ ≤ 16384 ∧ l.sectors ≤ 16384 ∧ l.used ≤ l.sectors ∧ l.texts.length ≤ l.used := by
  obtain ⟨vt, vs, h1, h2, h3, h4, h5, h6⟩ := h
  exact h2.small
theorem RDL.part (r gr q : Nat) (d : Dk.D) (l : Slo.L) : Part (fun F w => RDL F w r gr q d l) := by
  refine ⟨?_, ?_⟩
  · rintro F F' w ⟨vt, vs, h1, h2, h3, h4, h5, h6⟩ hF
    exact ⟨vt, vs, h1, h2, ⟨fun h => h3.1 (hF _ h1.ltr h), fun h => h3.2.1 (hF _ h1.ltg h), fun h => h3.2.2 (hF _ h2.lt h)⟩, fun k e h => h4 k e (hF k (World.ownsRow.lt h2.tx.own k e).2 h), h5, fun i k e h => h6 i k e (hF k (h2.tx.blk i k e) h)⟩
  · rintro F w w' K ⟨vt, vs, h1, h2, h3, h4, h5, h6⟩ hk hK
    exact ⟨vt, vs, h1.kept hk (fun hm => h3.1 (hK _ hm)) (fun hm => h3.2.1 (hK _ hm)), ⟨(hk.block q h2.lt (fun hm => h3.2.2 (hK _ hm))).trans h2.row, h2.ne,
      ⟨h2.tx.own.kept hk fun k e hm => h4 k e (hK k hm), h2.tx.len, fun i hi => (h2.tx.txt i hi).keptV hk fun k e hm => h6 i k e (hK k hm), fun i hi k e => ⟨(h2.tx.apart i hi k e).1, (h2.tx.apart i hi k e).2.1, Nat.lt_of_lt_of_le (h2.tx.apart i hi k e).2.2 hk.size⟩, h2.tx.out⟩, h2.small⟩, h3, h4, h5, h6⟩
theorem DL.part (p g q : Nat) (d : Dk.D) (l : Slo.L) : Part (fun F w => DL F w p g q d l) := ⟨fun h hF => h.others hF, fun h hk hK => h.kept hk hK⟩
theorem RDL.append (h : RDL F w r gr q d l) (hF : ∀ k, F k → k < w.heap.size) (hok : Dk.Ok d) (hfd : 128 * (l.from_ + l.sectors) ≤ d.b.length) (v : Value) (t : List (BitVec 8)) (hs : SlB w v t) (hap : Apart v t [r, gr, q]) :
    Calls Try.prog 57 #[.pointer (some ⟨q, 0, none⟩), v] w fun e w' => e = .returned (.int .i64 (Slo.append d l t).2.2) ∧ RDL F w' r gr q (Slo.append d l t).1 (Slo.append d l t).2.1 ∧ Fr F w w' := by
  obtain ⟨vt, vs, h1, h2, h3, h4, h5, h6⟩ := h
  refine (rappend_any h2 h1 hok hfd v t hs hap).mono ?_
  rintro e w' ⟨rfl, hD, ⟨vt', vs', hL, hv, ho⟩, hK⟩
  refine ⟨rfl, ⟨vt', vs', hD, hL, h3, fun k e => ?_, Slo.append_short h5, fun i k e => ?_⟩, _, hK, fun k hm => ?_⟩
  · rcases hv k e with h7 | h7
    · exact h4 k h7
    · exact fun h => by have := hF k h; omega
  · rcases ho i k e with ⟨j, h7⟩ | h7
    · exact h6 j k h7
    · exact fun h => by have := hF k h; omega
  · simp only [List.mem_append, List.mem_cons, List.not_mem_nil, or_false, Option.mem_toList] at hm
    rcases hm with (rfl | rfl | rfl) | hm
    · exact h3.1
    · exact h3.2.1
    · exact h3.2.2
    · exact h4 k hm
theorem RDL.room (h : RDL F w r gr q d l) : Calls Try.prog 58 #[.pointer (some ⟨q, 0, none⟩)] w fun e w' => e = .returned (.int .i64 (Slo.room l)) ∧ ∃ n, w' = w.drewN n := by
  obtain ⟨vt, vs, h1, h2, h3, h4, h5, h6⟩ := h
  exact rroom_any h2
end
/-- Open, on a disk that lies in none of the blocks F. -/
theorem ropen_dl {F : Nat → Prop} {w : World} {r gr : Nat} {d : Dk.D} (hD : RefD w r gr d) (hF : ∀ k, F k → k < w.heap.size) (hp : ¬ F r ∧ ¬ F gr) (fr n : Int) (k1 : fr ≤ 1000) (k3 : n ≤ 1000) (hm : d.b.length % 128 = 0) :
    Calls Try.prog 56 #[.pointer (some ⟨r, 0, none⟩), .int .i64 fr, .int .i64 n] w fun e w' => Below w.heap.size w w' ∧
      ((∃ c, Slo.open_ d fr n = (none, c) ∧ e = .returned (.tuple #[.pointer none, .int .i64 c])) ∨ (∃ l q, Slo.open_ d fr n = (some l, 0) ∧ e = .returned (.tuple #[.pointer (some ⟨q, 0, none⟩), .int .i64 0]) ∧ RDL F w' r gr q d l)) := by
  refine (ropen_any hD fr n k1 k3 hm).mono ?_
  rintro e w' ⟨hb, h⟩
  refine ⟨hb, ?_⟩
  obtain ⟨⟨o, c⟩, hr⟩ : ∃ r, Slo.open_ d fr n = r := ⟨_, rfl⟩
  rw [hr] at h
  cases o with
  | none => exact .inl ⟨c, hr, h⟩
  | some l =>
    obtain ⟨hc, q, vt, vs, rfl, hL, hq, hv, hx⟩ := h
    simp only at hc
    subst hc
    exact .inr ⟨l, q, hr, rfl, vt, vs, hD.below hb (Nat.le_refl _), hL, ⟨hp.1, hp.2, fun h => by have := hF q h; omega⟩, fun k e h => by have := hv k e; have := hF k h; omega, Slo.open_short hr, fun i k e h => by have := hx i k e; have := hF k h; omega⟩
end Go.Proofs.Ytdnjjemdnlegdaa
namespace Go.Proofs.Ytdnjjemdnlegdaa
set_option linter.unusedVariables false
set_option linter.unusedSimpArgs false
open Go Go.RowKit

theorem Duo.drewN {A : Nat → Prop} {Φ Ψ : (Nat → Prop) → World → Prop} {w : World} (h : Duo A Φ Ψ w) (hΦ : Part Φ) (hΨ : Part Ψ) (n : Nat) : Duo A Φ Ψ (w.drewN n) :=
  (h.out (K := []) hΦ hΨ ((Kept.refl [] w).drewN n) (fun k hk => absurd hk (by simp))).less fun k hk => .inl hk
theorem Duo.set {A : Nat → Prop} {Φ Ψ : (Nat → Prop) → World → Prop} {w w' : World} (h : Duo A Φ Ψ w) (hΦ : Part Φ) (hΨ : Part Ψ) {K : List Nat} (hk : Kept K w w') (hK : ∀ k, k ∈ K → A k) : Duo A Φ Ψ w' :=
  (h.out hΦ hΨ hk hK).less fun k hk => .inl hk
/-- The program's disk, and a log on it, if there is one. -/
def PP (p g q : Nat) (d : Dk.D) : Option Slo.L → (Nat → Prop) → World → Prop
  | none => fun F w => DiskAt w p g d ∧ ¬ F p ∧ ¬ F g
  | some l => fun F w => DL F w p g q d l
/-- The reference's. -/
def RP (r gr q : Nat) (d : Dk.D) : Option Slo.L → (Nat → Prop) → World → Prop
  | none => fun F w => RefD w r gr d ∧ ¬ F r ∧ ¬ F gr
  | some l => fun F w => RDL F w r gr q d l
theorem PP.part (p g q : Nat) (d : Dk.D) (o : Option Slo.L) : Part (PP p g q d o) := by
  cases o with
  | some l => exact DL.part p g q d l
  | none =>
    refine ⟨?_, ?_⟩
    · rintro F F' w ⟨h1, h2, h3⟩ hF
      exact ⟨h1, fun h => h2 (hF _ h1.ltp h), fun h => h3 (hF _ h1.ltg h)⟩
    · rintro F w w' K ⟨h1, h2, h3⟩ hk hK
      exact ⟨h1.kept hk (fun hm => h2 (hK _ hm)) (fun hm => h3 (hK _ hm)), h2, h3⟩
theorem RP.part (r gr q : Nat) (d : Dk.D) (o : Option Slo.L) : Part (RP r gr q d o) := by
  cases o with
  | some l => exact RDL.part r gr q d l
  | none =>
    refine ⟨?_, ?_⟩
    · rintro F F' w ⟨h1, h2, h3⟩ hF
      exact ⟨h1, fun h => h2 (hF _ h1.ltr h), fun h => h3 (hF _ h1.ltg h)⟩
    · rintro F w w' K ⟨h1, h2, h3⟩ hk hK
      exact ⟨h1.kept hk (fun hm => h2 (hK _ hm)) (fun hm => h3 (hK _ hm)), h2, h3⟩
theorem PP.disk {p g q : Nat} {d : Dk.D} {o : Option Slo.L} {F : Nat → Prop} {w : World} (h : PP p g q d o F w) : DiskAt w p g d ∧ ¬ F p ∧ ¬ F g := by
  cases o with
  | none => exact h
  | some l => exact ⟨DL.disk h, (DL.ge h).1, (DL.ge h).2.1⟩
theorem RP.disk {r gr q : Nat} {d : Dk.D} {o : Option Slo.L} {F : Nat → Prop} {w : World} (h : RP r gr q d o F w) : RefD w r gr d ∧ ¬ F r ∧ ¬ F gr := by
  cases o with
  | none => exact h
  | some l => exact ⟨RDL.disk h, (RDL.ge h).1, (RDL.ge h).2.1⟩
/-- The disk changes, the log stays. -/
theorem PP.keptD {p g q : Nat} {d d' : Dk.D} {o : Option Slo.L} {F : Nat → Prop} {w w' : World} (h : PP p g q d o F w) (hk : Kept [p, g] w w') (hd : DiskAt w' p g d') : PP p g q d' o F w' ∧ Fr F w w' := by
  have hg := PP.disk h
  refine ⟨?_, [p, g], hk, fun k hm => ?_⟩
  · cases o with
    | none => exact ⟨hd, hg.2⟩
    | some l => exact DL.keptD h hk hd
  · simp only [List.mem_cons, List.not_mem_nil, or_false] at hm
    rcases hm with rfl | rfl
    · exact hg.2.1
    · exact hg.2.2
theorem RP.keptD {r gr q : Nat} {d d' : Dk.D} {o : Option Slo.L} {F : Nat → Prop} {w w' : World} (h : RP r gr q d o F w) (hk : Kept [r, gr] w w') (hd : RefD w' r gr d') : RP r gr q d' o F w' ∧ Fr F w w' := by
  have hg := RP.disk h
  refine ⟨?_, [r, gr], hk, fun k hm => ?_⟩
  · cases o with
    | none => exact ⟨hd, hg.2⟩
    | some l =>
      obtain ⟨vt, vs, h1, h2, h3, h4, h5, h6⟩ := h
      exact ⟨vt, vs, hd, h2.keptD hk, h3, h4, h5, h6⟩
  · simp only [List.mem_cons, List.not_mem_nil, or_false] at hm
    rcases hm with rfl | rfl
    · exact hg.2.1
    · exact hg.2.2
def ptrO (q : Nat) (o : Option Slo.L) : Value := .pointer (o.map fun _ => ⟨q, 0, none⟩)
section
variable {A : Nat → Prop} {Φ Ψ : (Nat → Prop) → World → Prop} {w : World} {p g q r gr : Nat} {d : Dk.D} {o : Option Slo.L}
theorem pp_open (h : Duo A (PP p g q d o) Ψ w) (hΨ : Part Ψ) (fr n : Int) (h0 : -9223372036854775808 ≤ n) (h1 : n ≤ 9223372036854775807) :
    Calls Try.prog 31 #[.pointer (some ⟨p, 0, none⟩), .int .i64 fr, .int .i64 n] w fun e w' => ∃ q', e = .returned (.tuple #[ptrO q' (Slo.open_ d fr n).1, .int .i64 (Slo.open_ d fr n).2]) ∧ Duo A (PP p g q' d (Slo.open_ d fr n).1) Ψ w' ∧ Below w.heap.size w w' := by
  obtain ⟨F, hf, hF, hA, hc⟩ := h.left hΨ
  obtain ⟨hD, hp⟩ := PP.disk hf
  refine (open_dl hD hF hp fr n h0 h1).mono ?_
  rintro e w' ⟨hb, ⟨c, h2, rfl⟩ | ⟨l, q', h2, rfl, h3⟩⟩
  · refine ⟨0, by rw [h2]; rfl, hc _ _ ?_ (Fr.ofBelow hb), hb⟩
    rw [h2]
    exact ⟨hD.below hb (Nat.le_refl _), hp⟩
  · refine ⟨q', by rw [h2]; rfl, hc _ _ ?_ (Fr.ofBelow hb), hb⟩
    rw [h2]
    exact h3
theorem rp_open (h : Duo A Φ (RP r gr q d o) w) (hΦ : Part Φ) (fr n : Int) (k1 : fr ≤ 1000) (k3 : n ≤ 1000) (hm : d.b.length % 128 = 0) :
    Calls Try.prog 56 #[.pointer (some ⟨r, 0, none⟩), .int .i64 fr, .int .i64 n] w fun e w' => ∃ q', e = .returned (.tuple #[ptrO q' (Slo.open_ d fr n).1, .int .i64 (Slo.open_ d fr n).2]) ∧ Duo A Φ (RP r gr q' d (Slo.open_ d fr n).1) w' ∧ Below w.heap.size w w' := by
  obtain ⟨F, hf, hF, hA, hc⟩ := h.right hΦ
  obtain ⟨hD, hp⟩ := RP.disk hf
  refine (ropen_dl hD hF hp fr n k1 k3 hm).mono ?_
  rintro e w' ⟨hb, ⟨c, h2, rfl⟩ | ⟨l, q', h2, rfl, h3⟩⟩
  · refine ⟨0, by rw [h2]; rfl, hc _ _ ?_ (Fr.ofBelow hb), hb⟩
    rw [h2]
    exact ⟨hD.below hb (Nat.le_refl _), hp⟩
  · refine ⟨q', by rw [h2]; rfl, hc _ _ ?_ (Fr.ofBelow hb), hb⟩
    rw [h2]
    exact h3
end
theorem Slo.open_cases (d : Dk.D) (fr n : Int) : (∃ l, Slo.open_ d fr n = (some l, 0) ∧ l.from_ = fr.toNat ∧ l.sectors = n.toNat ∧ 128 * (l.from_ + l.sectors) ≤ d.b.length) ∨ ∃ c, Slo.open_ d fr n = (none, c) ∧ c ≠ 0 := by
  unfold Slo.open_
  split
  · exact .inr ⟨2, rfl, by decide⟩
  · split
    · exact .inr ⟨12, rfl, by decide⟩
    · split
      · exact .inl ⟨_, rfl, rfl, rfl, by show 128 * (fr.toNat + n.toNat) ≤ _; omega⟩
      · exact .inr ⟨9, rfl, by decide⟩

def plcells (p q r s : Nat) (o : Option Slo.L) (x0 x1 x2 : Int) : Array Value := #[.pointer (some ⟨p, 0, none⟩), .pointer (some ⟨r, 0, none⟩), ptrO q o, ptrO s o, .int .i64 x0, .int .i64 x1, .int .i64 x2]
/-- Both logs on both disks, in block P. -/
structure PlayAt (A : Nat → Prop) (w : World) (P p g q r gr s : Nat) (x0 x1 x2 : Int) (d : Dk.D) (o : Option Slo.L) : Prop where
  row : w.heap[P]? = some (.cells (plcells p q r s o x0 x1 x2) 69 (0, 0))
  own : A P
  duo : Duo A (PP p g q d o) (RP r gr s d o) w
  fit : ∀ l, o = some l → 128 * (l.from_ + l.sectors) ≤ d.b.length
section
variable {A : Nat → Prop} {w : World} {P p g q r gr s : Nat} {x0 x1 x2 : Int} {d : Dk.D} {o : Option Slo.L}
theorem PlayAt.c0 (h : PlayAt A w P p g q r gr s x0 x1 x2 d o) : w.cell? ⟨P, 0, none⟩ = some (.pointer (some ⟨p, 0, none⟩)) := cell_of_row w P 0 _ _ _ h.row
theorem PlayAt.c1 (h : PlayAt A w P p g q r gr s x0 x1 x2 d o) : w.cell? ⟨P, 1, none⟩ = some (.pointer (some ⟨r, 0, none⟩)) := cell_of_row w P 1 _ _ _ h.row
theorem PlayAt.c2 (h : PlayAt A w P p g q r gr s x0 x1 x2 d o) : w.cell? ⟨P, 2, none⟩ = some (ptrO q o) := cell_of_row w P 2 _ _ _ h.row
theorem PlayAt.c3 (h : PlayAt A w P p g q r gr s x0 x1 x2 d o) : w.cell? ⟨P, 3, none⟩ = some (ptrO s o) := cell_of_row w P 3 _ _ _ h.row
theorem PlayAt.c4 (h : PlayAt A w P p g q r gr s x0 x1 x2 d o) : w.cell? ⟨P, 4, none⟩ = some (.int .i64 x0) := cell_of_row w P 4 _ _ _ h.row
theorem PlayAt.c5 (h : PlayAt A w P p g q r gr s x0 x1 x2 d o) : w.cell? ⟨P, 5, none⟩ = some (.int .i64 x1) := cell_of_row w P 5 _ _ _ h.row
theorem PlayAt.c6 (h : PlayAt A w P p g q r gr s x0 x1 x2 d o) : w.cell? ⟨P, 6, none⟩ = some (.int .i64 x2) := cell_of_row w P 6 _ _ _ h.row
theorem PlayAt.f (h : PlayAt A w P p g q r gr s x0 x1 x2 d o) (j : Nat) : w.frozen? ⟨P, j, none⟩ = false := frozen_of_row w P j _ _ h.row
theorem PlayAt.lt (h : PlayAt A w P p g q r gr s x0 x1 x2 d o) : P < w.heap.size := (Array.getElem?_eq_some_iff.1 h.row).1
theorem PlayAt.size (h : PlayAt A w P p g q r gr s x0 x1 x2 d o) : Dk.Ok d := by
  obtain ⟨F, G, h1, _⟩ := h.duo
  exact (PP.disk h1).1.ok
theorem PlayAt.mod (h : PlayAt A w P p g q r gr s x0 x1 x2 d o) : d.b.length % 128 = 0 := by
  obtain ⟨n, _, _, h1⟩ := h.size.size
  omega
end

theorem play_set {w : World} {P p q r s : Nat} {x0 x1 x2 : Int} {o : Option Slo.L} (h : w.heap[P]? = some (.cells (plcells p q r s o x0 x1 x2) 69 (0, 0))) (q' s' : Nat) (o' : Option Slo.L) :
    ((w.setCell ⟨P, 2, none⟩ (ptrO q' o')).setCell ⟨P, 3, none⟩ (ptrO s' o')).heap[P]? = some (.cells (plcells p q' r s' o' x0 x1 x2) 69 (0, 0)) :=
  heap_setCell_same _ P 3 _ _ _ (heap_setCell_same w P 2 _ _ _ h)
/-- What open leaves. -/
def PlayR (A : Nat → Prop) (w : World) (P p g r gr : Nat) (x0 x1 x2 : Int) (d : Dk.D) (e : Ending) (w' : World) : Prop :=
  e = .returned (.bool true) ∧ (∃ q s o, PlayAt A w' P p g q r gr s x0 x1 x2 d o) ∧ Kept [P] w w'
set_option maxRecDepth 100000 in
set_option maxHeartbeats 4000000 in
theorem play_open {A : Nat → Prop} {w : World} {P p g q r gr s : Nat} {x0 x1 x2 : Int} {d : Dk.D} {o : Option Slo.L} (h : PlayAt A w P p g q r gr s x0 x1 x2 d o) (k1 : x1 ≤ 1000) (k2 : x2 ≤ 1000) (k3 : -9223372036854775808 ≤ x2) :
    Calls Try.prog 36 #[.pointer (some ⟨P, 0, none⟩)] w (PlayR A w P p g r gr x0 x1 x2 d) := by
  have c0 := h.c0
  have c5 := h.c5
  have c6 := h.c6
  have HPT := Lib.hid (fun o q => PP.part p g q d o)
  have HRT := Lib.hid (fun o s => RP.part r gr s d o)
  have HO := Lib.hid (fun (W : World) (hW : Duo A (PP p g q d o) (RP r gr s d o) W) => pp_open hW (HRT.out o s) x1 x2 k3 (by omega))
  have HR := Lib.hid (fun (W : World) (q' : Nat) (o' : Option Slo.L) (hW : Duo A (PP p g q' d o') (RP r gr s d o) W) => rp_open hW (HPT.out o' q') x1 x2 k1 k2 h.mod)
  have HD := Lib.hid (h.duo.drewN (HPT.out o q) (HRT.out o s) 1)
  have HOWN := Lib.hid h.own
  have HROW := Lib.hid h.row
  have HC := Lib.hid (And.intro h.c1 (And.intro h.c5 h.c6))
  have hlt := h.lt
  rcases Slo.open_cases d x1 x2 with ⟨l, e1, e2, e3, e4⟩ | ⟨c, e1, e2⟩
  · rw [e1] at HO HR
    have HFIT := Lib.hid e4
    have hpo : ∀ q, ptrO q (some l) = .pointer (some ⟨q, 0, none⟩) := fun _ => rfl
    have HO' := Lib.hid (fun W hW => by have := HO.out W hW; simp only [hpo] at this; exact this)
    have HR' := Lib.hid (fun W q' o' hW => by have := HR.out W q' o' hW; simp only [hpo] at this; exact this)
    clear HO HR h k1 k2 k3 e1 e2 e3 e4 hpo
    go_enter Try.func36, Try.ntmps36
    go_upto_region 1 with fail
    have d0 : w.drew.cell? ⟨P, 0, none⟩ = some (.pointer (some ⟨p, 0, none⟩)) := c0
    go_cut [3, 4] (fun s3 s4 wx => s4 = .int .i64 0 ∧ ∃ q', s3 = .pointer (some ⟨q', 0, none⟩) ∧ Hid (Duo A (PP p g q' d (some l)) (RP r gr s d o) wx ∧ Below w.heap.size w wx))
    case first =>
      go_region_with (go_at_call 31; refine (HO'.out _ HD.out).mono ?_; rintro e w' ⟨q', rfl, hD, hB⟩; have HX := Lib.hid (And.intro hD (below_undrew hB)); clear hD hB)
      all_goals (go_wp2_with fail; go_meet)
      all_goals exact ⟨rfl, q', rfl, HX⟩
    case rest =>
      obtain ⟨rfl, q', rfl, HX⟩ := hcut
      obtain ⟨w1, rfl⟩ : ∃ x, x = wc := ⟨_, rfl⟩
      have c1 := (HX.out.2.cell (p := ⟨P, 1, none⟩) hlt).trans HC.out.1
      have c5 := (HX.out.2.cell (p := ⟨P, 5, none⟩) hlt).trans HC.out.2.1
      have c6 := (HX.out.2.cell (p := ⟨P, 6, none⟩) hlt).trans HC.out.2.2
      have HD1 := Lib.hid (HX.out.1.drewN (HPT.out (some l) q') (HRT.out o s) 1)
      go_upto_region 2 with fail
      go_cut [5, 6] (fun s5 s6 wx => s6 = .int .i64 0 ∧ ∃ s', s5 = .pointer (some ⟨s', 0, none⟩) ∧ Hid (Duo A (PP p g q' d (some l)) (RP r gr s' d (some l)) wx ∧ Below w.heap.size w wx))
      case first =>
        go_region_with (go_at_call 56; refine (HR'.out _ _ _ HD1.out).mono ?_; rintro e w' ⟨s', rfl, hD, hB⟩; have HY := Lib.hid (And.intro hD (HX.out.2.trans ((below_undrew hB).mono HX.out.2.size))); clear hD hB)
        all_goals (go_wp2_with fail; go_meet)
        all_goals exact ⟨rfl, s', rfl, HY⟩
      case rest =>
        obtain ⟨rfl, s', rfl, HY⟩ := hcut
        obtain ⟨w2, rfl⟩ : ∃ x, x = wc := ⟨_, rfl⟩
        have hrw := (HY.out.2.block P hlt).trans HROW.out
        have c2 : w2.cell? ⟨P, 2, none⟩ = some (ptrO q o) := cell_of_row w2 P 2 _ _ _ hrw
        have c3 : w2.cell? ⟨P, 3, none⟩ = some (ptrO s o) := cell_of_row w2 P 3 _ _ _ hrw
        have f2 : w2.frozen? ⟨P, 2, none⟩ = false := frozen_of_row w2 P 2 _ _ hrw
        have f3 : w2.frozen? ⟨P, 3, none⟩ = false := frozen_of_row w2 P 3 _ _ hrw
        have HR2 := Lib.hid hrw
        clear c1 c5 c6 hrw
        go_wp2
        go_ret
        refine ⟨rfl, ⟨q', s', some l, play_set HR2.out q' s' (some l), HOWN.out, ?_, fun l' e => by cases e; exact HFIT.out⟩, ?_⟩
        · exact HY.out.1.set (HPT.out _ _) (HRT.out _ _) (K := [P]) (((Kept.refl [P] w2).setCell (by simp) _).setCell (by simp) _) (by simp; exact HOWN.out)
        · exact ((Kept.ofBelow HY.out.2 (Nat.le_refl _)).setCell (by simp) _).setCell (by simp) _
  · rw [e1] at HO HR
    have HCZ := Lib.hid e2
    have hcz : ¬ c = 0 := e2
    have hpo : ∀ q, ptrO q none = .pointer none := fun _ => rfl
    have HO' := Lib.hid (fun W hW => by have := HO.out W hW; simp only [hpo] at this; exact this)
    have HR' := Lib.hid (fun W q' o' hW => by have := HR.out W q' o' hW; simp only [hpo] at this; exact this)
    clear HO HR h k1 k2 k3 e1 e2 hpo
    go_enter Try.func36, Try.ntmps36
    go_upto_region 1 with fail
    have d0 : w.drew.cell? ⟨P, 0, none⟩ = some (.pointer (some ⟨p, 0, none⟩)) := c0
    go_cut [3, 4] (fun s3 s4 wx => s4 = .int .i64 c ∧ ∃ q' : Nat, s3 = .pointer none ∧ Hid (Duo A (PP p g q' d none) (RP r gr s d o) wx ∧ Below w.heap.size w wx))
    case first =>
      go_region_with (go_at_call 31; refine (HO'.out _ HD.out).mono ?_; rintro e w' ⟨q', rfl, hD, hB⟩; have HX := Lib.hid (And.intro hD (below_undrew hB)); clear hD hB)
      all_goals (go_wp2_with fail; go_meet)
      all_goals exact ⟨rfl, q', rfl, HX⟩
    case rest =>
      obtain ⟨rfl, q', rfl, HX⟩ := hcut
      obtain ⟨w1, rfl⟩ : ∃ x, x = wc := ⟨_, rfl⟩
      have c1 := (HX.out.2.cell (p := ⟨P, 1, none⟩) hlt).trans HC.out.1
      have c5 := (HX.out.2.cell (p := ⟨P, 5, none⟩) hlt).trans HC.out.2.1
      have c6 := (HX.out.2.cell (p := ⟨P, 6, none⟩) hlt).trans HC.out.2.2
      have HD1 := Lib.hid (HX.out.1.drewN (HPT.out none q') (HRT.out o s) 1)
      go_upto_region 2 with fail
      go_cut [5, 6] (fun s5 s6 wx => s6 = .int .i64 c ∧ ∃ s' : Nat, s5 = .pointer none ∧ Hid (Duo A (PP p g q' d none) (RP r gr s' d none) wx ∧ Below w.heap.size w wx))
      case first =>
        go_region_with (go_at_call 56; refine (HR'.out _ _ _ HD1.out).mono ?_; rintro e w' ⟨s', rfl, hD, hB⟩; have HY := Lib.hid (And.intro hD (HX.out.2.trans ((below_undrew hB).mono HX.out.2.size))); clear hD hB)
        all_goals (go_wp2_with fail; go_meet)
        all_goals exact ⟨rfl, s', rfl, HY⟩
      case rest =>
        obtain ⟨rfl, s', rfl, HY⟩ := hcut
        obtain ⟨w2, rfl⟩ : ∃ x, x = wc := ⟨_, rfl⟩
        have hrw := (HY.out.2.block P hlt).trans HROW.out
        have c2 : w2.cell? ⟨P, 2, none⟩ = some (ptrO q o) := cell_of_row w2 P 2 _ _ _ hrw
        have c3 : w2.cell? ⟨P, 3, none⟩ = some (ptrO s o) := cell_of_row w2 P 3 _ _ _ hrw
        have f2 : w2.frozen? ⟨P, 2, none⟩ = false := frozen_of_row w2 P 2 _ _ hrw
        have f3 : w2.frozen? ⟨P, 3, none⟩ = false := frozen_of_row w2 P 3 _ _ hrw
        have HR2 := Lib.hid hrw
        clear c1 c5 c6 hrw
        go_wp2
        go_ret
        refine ⟨by show Ending.returned (.bool (!(c == 0))) = Ending.returned (.bool true); simp [HCZ.out], ⟨q', s', none, play_set HR2.out q' s' none, HOWN.out, ?_, fun l' e => by cases e⟩, ?_⟩
        · exact HY.out.1.set (HPT.out _ _) (HRT.out _ _) (K := [P]) (((Kept.refl [P] w2).setCell (by simp) _).setCell (by simp) _) (by simp; exact HOWN.out)
        · exact ((Kept.ofBelow HY.out.2 (Nat.le_refl _)).setCell (by simp) _).setCell (by simp) _
end Go.Proofs.Ytdnjjemdnlegdaa
namespace Go.Proofs.Ytdnjjemdnlegdaa
set_option linter.unusedVariables false
set_option linter.unusedSimpArgs false
open Go Go.RowKit

section
variable {A : Nat → Prop} {Φ Ψ : (Nat → Prop) → World → Prop} {w : World} {p g q r gr s : Nat} {d : Dk.D} {o : Option Slo.L}
theorem pp_cut (h : Duo A (PP p g q d o) Ψ w) (hΨ : Part Ψ) (whole : Int) (mask : List (BitVec 8)) (hm : mask.length = 16) (hw : whole ≤ 9223372036854775807) :
    Calls Try.prog 18 #[.pointer (some ⟨p, 0, none⟩), .int .i64 whole, .agg (bytes mask)] w fun e w' => e = .returned (.int .i64 (Dk.cut d whole mask).2) ∧ Duo A (PP p g q (Dk.cut d whole mask).1 o) Ψ w' ∧ Fr A w w' := by
  obtain ⟨F, hf, hF, hA, hc⟩ := h.left hΨ
  refine (dk_cut (PP.disk hf).1 whole mask hm hw).mono ?_
  rintro e w' ⟨rfl, hD, hK⟩
  have h1 := PP.keptD hf hK hD
  exact ⟨rfl, hc _ _ h1.1 h1.2, h1.2.mono hA⟩
theorem pp_restart (h : Duo A (PP p g q d o) Ψ w) (hΨ : Part Ψ) :
    Calls Try.prog 25 #[.pointer (some ⟨p, 0, none⟩)] w fun e w' => e = .returned (.int .i64 0) ∧ Duo A (PP p g q (Dk.restart d) o) Ψ w' ∧ Fr A w w' := by
  obtain ⟨F, hf, hF, hA, hc⟩ := h.left hΨ
  refine (dk_restart (PP.disk hf).1).mono ?_
  rintro e w' ⟨rfl, hD, hK⟩
  have h1 := PP.keptD hf hK hD
  exact ⟨rfl, hc _ _ h1.1 h1.2, h1.2.mono hA⟩
theorem pp_bytes (h : Duo A (PP p g q d o) Ψ w) (hΨ : Part Ψ) : Calls Try.prog 17 #[.pointer (some ⟨p, 0, none⟩)] w (RetB w d.b) := by
  obtain ⟨F, hf, hF, hA, hc⟩ := h.left hΨ
  exact dk_bytes (PP.disk hf).1
/-- What is written into the reference's disk, outright. -/
theorem rp_set {d' : Dk.D} {w' : World} (h : Duo A Φ (RP r gr s d o) w) (hΦ : Part Φ) (hK : Kept [r, gr] w w') (hd : RefD w r gr d → RefD w' r gr d') : Duo A Φ (RP r gr s d' o) w' ∧ Fr A w w' := by
  obtain ⟨F, hf, hF, hA, hc⟩ := h.right hΦ
  have h1 := RP.keptD hf hK (hd (RP.disk hf).1)
  exact ⟨hc _ _ h1.1 h1.2, h1.2.mono hA⟩
theorem rp_disk (h : Duo A Φ (RP r gr s d o) w) : RefD w r gr d ∧ ∀ k, A k → k ≠ r ∧ k ≠ gr := by
  obtain ⟨F, G, h1, h2, h3, h4, h5, h6⟩ := h
  obtain ⟨a, b, c⟩ := RP.disk h2
  exact ⟨a, fun k hk => ⟨fun e => b (e ▸ (h4 k hk).2), fun e => c (e ▸ (h4 k hk).2)⟩⟩
theorem Part.out {Φ : (Nat → Prop) → World → Prop} (h : Part Φ) : Part Φ := h
end
theorem fr_cell {F : Nat → Prop} {w w' : World} (h : Fr F w w') {b o : Nat} {v : Value} (hF : F b) (hc : w.cell? ⟨b, o, none⟩ = some v) : w'.cell? ⟨b, o, none⟩ = some v :=
  (World.cell?_of_block (a := ⟨b, o, none⟩) (h.block b (block_lt_of_cell hc).1 hF)).trans hc
theorem fr_keep3 {F : Nat → Prop} {w w' : World} (h : Fr F w w') {P b i j k : Nat} {u v : Value} {bm : List Value} (hP : F P) (hb : F b) (h0 : w.cell? ⟨P, i, none⟩ = some u) (h1 : w.cell? ⟨b, j, none⟩ = some v) (h2 : w.rangeAt b k bm) :
    w'.cell? ⟨P, i, none⟩ = some u ∧ w'.cell? ⟨b, j, none⟩ = some v ∧ w'.rangeAt b k bm :=
  ⟨fr_cell h hP h0, fr_cell h hb h1, fun n x hx => fr_cell h hb (h2 n x hx)⟩
/-- The reference's disk, as cells. -/
structure RR (W : World) (r gr : Nat) (bs : List (BitVec 8)) (off a2 a3 : Value) (m : List Value) : Prop where
  row : W.heap[r]? = some (.cells ([.slice (some ⟨gr, 0, none⟩) bs.length bs.length, off, a2, a3] ++ m).toArray 66 (0, 0))
  data : W.heap[gr]? = some (.cells (bytes bs) 5 (0, 0))
  ne : gr ≠ r
  len : m.length = 16
theorem RR.of {w : World} {r gr : Nat} {d : Dk.D} {wh : Int} {mk : List (BitVec 8)} (h : RefAt w r gr d wh mk) : RR w r gr d.b (.bool d.off) (.bool (decide (0 ≤ d.left))) (.int .i64 wh) (bcells mk) := ⟨h.row, h.data, h.ne, by rw [bcells_length, h.mlen]⟩
section
variable {W : World} {r gr : Nat} {bs : List (BitVec 8)} {off a2 a3 : Value} {m : List Value}
theorem RR.drew (h : RR W r gr bs off a2 a3 m) : RR W.drew r gr bs off a2 a3 m := ⟨h.row, h.data, h.ne, h.len⟩
theorem RR.set1 (h : RR W r gr bs off a2 a3 m) (x : Value) : RR (W.setCell ⟨r, 1, none⟩ x) r gr bs x a2 a3 m :=
  ⟨by have := heap_setCell_same W r 1 _ _ x h.row; simpa using this, by rw [heap_setCell_other _ _ _ _ (by simpa using h.ne)]; exact h.data, h.ne, h.len⟩
theorem RR.set2 (h : RR W r gr bs off a2 a3 m) (x : Value) : RR (W.setCell ⟨r, 2, none⟩ x) r gr bs off x a3 m :=
  ⟨by have := heap_setCell_same W r 2 _ _ x h.row; simpa using this, by rw [heap_setCell_other _ _ _ _ (by simpa using h.ne)]; exact h.data, h.ne, h.len⟩
theorem RR.set3 (h : RR W r gr bs off a2 a3 m) (x : Value) : RR (W.setCell ⟨r, 3, none⟩ x) r gr bs off a2 x m :=
  ⟨by have := heap_setCell_same W r 3 _ _ x h.row; simpa using this, by rw [heap_setCell_other _ _ _ _ (by simpa using h.ne)]; exact h.data, h.ne, h.len⟩
theorem RR.setM (h : RR W r gr bs off a2 a3 m) (x : List Value) (hx : x.length = 16) : RR (W.setCells r 4 x) r gr bs off a2 a3 x := by
  refine ⟨?_, by rw [setCells_other r gr h.ne]; exact h.data, h.ne, hx⟩
  have := heap_setCells r 66 x 4 [.slice (some ⟨gr, 0, none⟩) bs.length bs.length, off, a2, a3] m [] W (by rw [h.len, hx]) (by simp) (by simpa using h.row)
  simpa using this
theorem RR.at' {d : Dk.D} {wh : Int} {mk : List (BitVec 8)} (h : RR W r gr d.b (.bool d.off) a2 (.int .i64 wh) (bcells mk)) (h2 : Value.bool (decide (0 ≤ d.left)) = a2) (hl : 0 ≤ d.left → wh = d.left ∧ mk = d.mask) (hm : mk.length = 16) (hs : d.b.length ≤ 2097152) : RefAt W r gr d wh mk :=
  ⟨by rw [rcells, h2]; exact h.row, h.data, h.ne, hm, hl, hs⟩
end
theorem st_keep {W : World} {P b r i j k L : Nat} {u v : Value} {bm : List Value} (hP : P ≠ r) (hb : b ≠ r) (h : W.cell? ⟨P, i, none⟩ = some u ∧ W.cell? ⟨b, j, none⟩ = some v ∧ W.rangeAt b k bm ∧ W.there r 4 L ∧ W.cell? ⟨r, 2, none⟩ = some (cellOf W ⟨r, 2, none⟩) ∧ W.frozen? ⟨r, 2, none⟩ = false ∧ W.cell? ⟨r, 3, none⟩ = some (cellOf W ⟨r, 3, none⟩) ∧ W.frozen? ⟨r, 3, none⟩ = false) (n : Nat) (vs : List Value) :
    (W.setCells r n vs).cell? ⟨P, i, none⟩ = some u ∧ (W.setCells r n vs).cell? ⟨b, j, none⟩ = some v ∧ (W.setCells r n vs).rangeAt b k bm ∧ (W.setCells r n vs).there r 4 L ∧ (W.setCells r n vs).cell? ⟨r, 2, none⟩ = some (cellOf (W.setCells r n vs) ⟨r, 2, none⟩) ∧ (W.setCells r n vs).frozen? ⟨r, 2, none⟩ = false ∧ (W.setCells r n vs).cell? ⟨r, 3, none⟩ = some (cellOf (W.setCells r n vs) ⟨r, 3, none⟩) ∧ (W.setCells r n vs).frozen? ⟨r, 3, none⟩ = false := by
  obtain ⟨h1, h2, h3, h4, h5, h6, h7, h8⟩ := h
  refine ⟨(World.cell?_of_block (a := ⟨P, i, none⟩) (setCells_other r P hP vs n W)).trans h1, (World.cell?_of_block (a := ⟨b, j, none⟩) (setCells_other r b hb vs n W)).trans h2, World.rangeAt_setCells_apart h3 r n vs (.inl hb), World.there_setCells h4 r n vs, cellOf_some (World.isSome_setCells r vs n W ⟨r, 2, none⟩ (by rw [h5]; rfl)), by rw [frozen_setCells]; exact h6, cellOf_some (World.isSome_setCells r vs n W ⟨r, 3, none⟩ (by rw [h7]; rfl)), by rw [frozen_setCells]; exact h8⟩
/-- What an act leaves. -/
def PlayD (A : Nat → Prop) (w : World) (P p g r gr : Nat) (x0 x1 x2 : Int) (e : Ending) (w' : World) : Prop :=
  e = .returned (.bool true) ∧ (∃ q s o d, PlayAt A w' P p g q r gr s x0 x1 x2 d o) ∧ Fr (fun k => A k ∧ k ≠ P) w w'
/-- An act as a value. -/
def actV9 (wt wh at_ : Int) (mask : List (BitVec 8)) (v : Value) : Value := .agg (actC9 wt wh at_ mask v).toArray

/-- An act in a box of its own, w0 being the world ahead. -/
structure ActBox (w0 w : World) (b : Nat) (wt wh at_ : Int) (mask : List (BitVec 8)) (v : Value) : Prop where
  row : w.heap[b]? = some (.cells (actC9 wt wh at_ mask v).toArray 53 (0, 0))
theorem ActBox.c0 {w0 w : World} {b : Nat} {wt wh at_ : Int} {mask : List (BitVec 8)} {v : Value} (h : ActBox w0 w b wt wh at_ mask v) : w.cell? ⟨b, 0, none⟩ = some (.int .i64 wt) := by rw [cell_of_row w b 0 _ _ _ h.row]; rfl
theorem ActBox.c1 {w0 w : World} {b : Nat} {wt wh at_ : Int} {mask : List (BitVec 8)} {v : Value} (h : ActBox w0 w b wt wh at_ mask v) : w.cell? ⟨b, 1, none⟩ = some (.int .i64 wh) := by rw [cell_of_row w b 1 _ _ _ h.row]; rfl
theorem ActBox.c2 {w0 w : World} {b : Nat} {wt wh at_ : Int} {mask : List (BitVec 8)} {v : Value} (h : ActBox w0 w b wt wh at_ mask v) : w.cell? ⟨b, 2, none⟩ = some (.int .i64 at_) := by rw [cell_of_row w b 2 _ _ _ h.row]; rfl
theorem ActBox.mask {w0 w : World} {b : Nat} {wt wh at_ : Int} {mask : List (BitVec 8)} {v : Value} (h : ActBox w0 w b wt wh at_ mask v) (hm : mask.length = 16) : w.rangeAt b 3 (bcells mask) := by
  intro j x hj
  have hjl : j < mask.length := by have := (List.getElem?_eq_some_iff.1 hj).1; rwa [bcells_length] at this
  rw [cell_of_row w b (3 + j) _ _ _ h.row, List.getElem?_toArray, actC9, List.getElem?_append_right (by simp), show 3 + j - [Value.int .i64 wt, .int .i64 wh, .int .i64 at_].length = j by simp, List.getElem?_append_left (by rw [bcells_length]; exact hjl)]
  exact hj
theorem ActBox.c19 {w0 w : World} {b : Nat} {wt wh at_ : Int} {mask : List (BitVec 8)} {v : Value} (h : ActBox w0 w b wt wh at_ mask v) (hm : mask.length = 16) : w.cell? ⟨b, 19, none⟩ = some v := by
  rw [cell_of_row w b 19 _ _ _ h.row, List.getElem?_toArray, actC9, List.getElem?_append_right (by simp), List.getElem?_append_right (by rw [bcells_length, hm]; simp)]
  rw [bcells_length, hm]
  rfl
theorem ActBox.new (w : World) (wt wh at_ : Int) (mask : List (BitVec 8)) (v : Value) : ActBox w (w.alloc (.cells (actC9 wt wh at_ mask v).toArray 53)) w.heap.size wt wh at_ mask v := ⟨heap_alloc_new w _⟩
theorem ActBox.kept {w0 w w' : World} {b : Nat} {wt wh at_ : Int} {mask : List (BitVec 8)} {v : Value} {K : List Nat} (h : ActBox w0 w b wt wh at_ mask v) (hk : Kept K w w') (hb : b ∉ K) : ActBox w0 w' b wt wh at_ mask v :=
  ⟨(hk.block b (Array.getElem?_eq_some_iff.1 h.row).1 hb).trans h.row⟩
/-- A box more, that lies apart. -/
theorem PlayAt.more {A : Nat → Prop} {w : World} {P p g q r gr s : Nat} {x0 x1 x2 : Int} {d : Dk.D} {o : Option Slo.L} (h : PlayAt A w P p g q r gr s x0 x1 x2 d o) (ob : Obj) : PlayAt (fun k => A k ∨ k = w.heap.size) (w.alloc ob) P p g q r gr s x0 x1 x2 d o := by
  have hb : Below w.heap.size w (w.alloc ob) := (Below.refl _ w).alloc (Nat.le_refl _) ob
  refine ⟨(hb.block P h.lt).trans h.row, .inl h.own, (h.duo.below (PP.part _ _ _ _ _) (RP.part _ _ _ _ _) hb).less fun k hk => ?_, h.fit⟩
  rcases hk with hk | rfl
  · exact .inl hk
  · exact .inr ⟨Nat.le_refl _, by simp⟩

set_option maxRecDepth 100000 in
set_option maxHeartbeats 4000000 in
theorem do_cut {A : Nat → Prop} {w : World} {P p g q r gr s : Nat} {x0 x1 x2 : Int} {d : Dk.D} {o : Option Slo.L} (h : PlayAt A w P p g q r gr s x0 x1 x2 d o) (wt wh at_ : Int) (mask : List (BitVec 8)) (v : Value) (hm : mask.length = 16) (hwh : wh ≤ 9223372036854775807)
    (hk : (wt.tmod 6 + 6).tmod 6 = 3) (hw0 : -9223372036854775808 ≤ wt) (hw1 : wt ≤ 9223372036854775807) :
    Calls Try.prog 37 #[.pointer (some ⟨P, 0, none⟩), actV9 wt wh at_ mask v] w (PlayD A w P p g r gr x0 x1 x2) := by
  obtain ⟨W, hW⟩ : ∃ W, w.alloc (.cells (actC9 wt wh at_ mask v).toArray 53) = W := ⟨_, rfl⟩
  have hX : ActBox w W w.heap.size wt wh at_ mask v := by rw [← hW]; exact ActBox.new w wt wh at_ mask v
  have hP : PlayAt (fun k => A k ∨ k = w.heap.size) W P p g q r gr s x0 x1 x2 d o := by rw [← hW]; exact h.more _
  have e0 := hX.c0
  have e1 := hX.c1
  have c0 := hP.c0
  have c1 := hP.c1
  have q1 : IntKind.i64.wrap (wt.tmod 6 + 6) = wt.tmod 6 + 6 := by
    have := Int.tmod_lt_of_pos wt (show (0 : Int) < 6 by decide)
    have := Int.lt_tmod_of_pos wt (show (0 : Int) < 6 by decide)
    rw [IntKind.wrap_i64]; omega
  unfold actV9
  go_enter Try.func37, Try.ntmps37
  go_upto_region 1 with fail
  go_upto_region 3 with fail
  have HI := Lib.hid (show (Try.prog.info? 23).map (·.size) = some (bcells mask).length by rw [bcells_length, hm]; kernel_rfl)
  have HBM := Lib.hid (show (bcells mask).toArray = bytes mask by rw [← bytes_toList])
  have hi := HI.out
  have hu := Try.underlying23
  have h1 := bcells_one mask
  have hra := hX.mask hm
  have y1 := hX.c1
  have HX := Lib.hid hX
  have HP := Lib.hid hP
  have HK3 := Lib.hid (fun w' (hF : Fr (fun k => A k ∨ k = w.heap.size) W w') => fr_keep3 hF (.inl h.own) (.inr rfl) c0 y1 hra)
  have HCUT := Lib.hid (fun (W' : World) (hW : Duo (fun k => A k ∨ k = w.heap.size) (PP p g q d o) (RP r gr s d o) W') => pp_cut hW (RP.part _ _ _ _ _) wh mask hm hwh)
  have HD1 := Lib.hid (hP.duo.drewN (PP.part _ _ _ _ _) (RP.part _ _ _ _ _) 1)
  rw [← HBM.out] at HCUT
  have HBW := Lib.hid (show Below w.heap.size w W by rw [← hW]; exact (Below.refl _ w).alloc (Nat.le_refl _) _)
  have HBP := Lib.hid (show P ≠ w.heap.size from fun e => by have := h.lt; omega)
  have HP' := Lib.hid (show P < W.heap.size from hP.lt)
  clear hX hP e0 c1 q1 h hW
  obtain ⟨R, hR⟩ : ∃ R, Dk.cut d wh mask = R := ⟨_, rfl⟩
  rw [hR] at HCUT
  have HCR := Lib.hid hR
  clear hR
  obtain ⟨b, hb⟩ : ∃ b, w.heap.size = b := ⟨_, rfl⟩
  rw [hb] at HBP HX HP HK3 HCUT HD1 hra y1 ⊢
  go_cut [5] (fun s5 wx => s5 = .int .i64 R.2 ∧ Hid (Duo (fun k => A k ∨ k = b) (PP p g q R.1 o) (RP r gr s d o) wx ∧ Fr (fun k => A k ∨ k = b) W wx))
  case first =>
    go_region_held3 (fun w' => w'.cell? ⟨P, 0, none⟩ = some (.pointer (some ⟨p, 0, none⟩)) ∧ w'.cell? ⟨b, 1, none⟩ = some (.int .i64 wh) ∧ w'.rangeAt b 3 (bcells mask)) (first | exact HK3.out _ HY.out.2 | exact ⟨by assumption, by assumption, by assumption⟩) (first | (go_at_call 18; refine (HCUT.out _ HD1.out).mono ?_; rintro e w' ⟨rfl, hD, hF⟩; have HY := Lib.hid (And.intro hD hF); clear hD hF))
    all_goals (go_wp2_with fail; go_meet)
    all_goals exact ⟨rfl, HY⟩
  case rest =>
    obtain ⟨rfl, HY⟩ := hcut
    obtain ⟨wx, rfl⟩ : ∃ x, x = wc := ⟨_, rfl⟩
    have hrd := rp_disk HY.out.1
    have hrP : P ≠ r := (hrd.2 P HP.out.own).1
    have hrb : b ≠ r := (hrd.2 b (.inr rfl)).1
    have y1 := fr_cell HY.out.2 HP.out.own HP.out.c1
    have y0 := (HK3.out _ HY.out.2).2.1
    have yra := (HK3.out _ HY.out.2).2.2
    have HFA := Lib.hid (show Fr (fun k => A k ∧ k ≠ P) w wx from (Fr.ofBelow HBW.out).trans (HY.out.2.mono fun k hk => .inl hk.1))
    have HROW := Lib.hid ((HY.out.2.block P HP.out.lt HP.out.own).trans HP.out.row)
    have hcs : (wh < 0 ∧ R = (d, 2)) ∨ (¬ wh < 0 ∧ d.off = true ∧ R = (d, 12)) ∨ (¬ wh < 0 ∧ d.off = false ∧ R = ({ d with left := wh, mask := mask }, 0)) := by
      rw [← HCR.out]
      unfold Dk.cut
      by_cases h1 : wh < 0
      · exact .inl ⟨h1, by rw [if_pos h1]⟩
      · by_cases h2 : d.off = true
        · exact .inr (.inl ⟨h1, h2, by rw [if_neg h1, if_pos h2]⟩)
        · exact .inr (.inr ⟨h1, by simpa using h2, by rw [if_neg h1, if_neg h2]⟩)
    rcases hcs with ⟨h0, rfl⟩ | ⟨h0, h2, rfl⟩ | ⟨h0, h2, rfl⟩
    · clear hrd hra
      go_wp2
      go_ret
      exact ⟨rfl, ⟨q, s, o, d, HROW.out, HP.out.own.elim id (fun e => absurd e HBP.out), HY.out.1.less fun k hk => .inl hk, HP.out.fit⟩, HFA.out⟩
    · have r1 := hrd.1.c1
      rw [h2] at r1
      clear hrd hra
      go_wp2
      go_ret
      exact ⟨rfl, ⟨q, s, o, d, HROW.out, HP.out.own.elim id (fun e => absurd e HBP.out), HY.out.1.less fun k hk => .inl hk, HP.out.fit⟩, HFA.out⟩
    · obtain ⟨wh', mk', hA⟩ := hrd.1
      have HRR := Lib.hid (RR.of hA)
      have hth : wx.there r 4 16 := fun j hj => ⟨by rw [hA.c4 j hj]; rfl, hA.fr _⟩
      have g2 := cellOf_some (show (wx.cell? ⟨r, 2, none⟩).isSome = true by rw [hA.c2]; rfl)
      have g3 := cellOf_some (show (wx.cell? ⟨r, 3, none⟩).isSome = true by rw [hA.c3]; rfl)
      have f2 := hA.fr 2
      have f3 := hA.fr 3
      have HFIN := Lib.hid (show ∀ W', RR W' r gr d.b (.bool d.off) (.bool true) (.int .i64 wh) (bcells mask) → Kept [r] wx W' → PlayD A w P p g r gr x0 x1 x2 (.returned (.bool true)) W' from by
        intro W' hr hk
        have h5 := rp_set (d' := { d with left := wh, mask := mask }) (w' := W') HY.out.1 (PP.part _ _ _ _ _) (hk.mono (by simp)) (fun _ => ⟨wh, mask, RR.at' (d := { d with left := wh, mask := mask }) hr (by rw [decide_eq_true (show 0 ≤ wh by omega)]) (fun _ => ⟨rfl, rfl⟩) hm hA.small⟩)
        exact ⟨rfl, ⟨q, s, o, _, (h5.2.block P (Nat.lt_of_lt_of_le HP'.out HY.out.2.size) HP.out.own).trans HROW.out, HP.out.own.elim id (fun e => absurd e HBP.out), h5.1.less fun k hk => .inl hk, HP.out.fit⟩, HFA.out.trans (h5.2.mono fun k hk => .inl hk.1)⟩)
      clear hA hrd hra
      go_upto_region 5 with fail
      rw [show 16 = (bcells mask).length by rw [bcells_length, hm]] at hth
      have HBL := Lib.hid (show (bcells mask).length = 16 by rw [bcells_length, hm])
      generalize bcells mask = bm at *
      go_region_held3 (fun W' => W'.cell? ⟨P, 1, none⟩ = some (.pointer (some ⟨r, 0, none⟩)) ∧ W'.cell? ⟨b, 1, none⟩ = some (.int .i64 wh) ∧ W'.rangeAt b 3 bm ∧ W'.there r 4 bm.length ∧ W'.cell? ⟨r, 2, none⟩ = some (cellOf W' ⟨r, 2, none⟩) ∧ W'.frozen? ⟨r, 2, none⟩ = false ∧ W'.cell? ⟨r, 3, none⟩ = some (cellOf W' ⟨r, 3, none⟩) ∧ W'.frozen? ⟨r, 3, none⟩ = false) (first | exact ⟨by assumption, by assumption, by assumption, by assumption, by assumption, by assumption, by assumption, by assumption⟩ | exact st_keep hrP hrb (by assumption) 2 [_] | exact st_keep hrP hrb (by assumption) 3 [_] | exact st_keep hrP hrb (by assumption) 4 _) (fail)
      all_goals
        go_wp2
        go_ret
        first
        | exact HFIN.out _ (((HRR.out.set2 _).set3 _).setM _ HBL.out) (Kept.setCells (by simp) _ _ _ (((Kept.refl [r] wx).setCell (by simp) _).setCell (by simp) _))
        | exact HFIN.out _ (((HRR.out.set2 _).setM _ HBL.out).set3 _) ((Kept.setCells (by simp) _ _ _ ((Kept.refl [r] wx).setCell (by simp) _)).setCell (by simp) _)
        | exact HFIN.out _ (((HRR.out.set3 _).set2 _).setM _ HBL.out) (Kept.setCells (by simp) _ _ _ (((Kept.refl [r] wx).setCell (by simp) _).setCell (by simp) _))
        | exact HFIN.out _ (((HRR.out.set3 _).setM _ HBL.out).set2 _) ((Kept.setCells (by simp) _ _ _ ((Kept.refl [r] wx).setCell (by simp) _)).setCell (by simp) _)
        | exact HFIN.out _ (((HRR.out.setM _ HBL.out).set2 _).set3 _) (((Kept.setCells (by simp) _ _ _ (Kept.refl [r] wx)).setCell (by simp) _).setCell (by simp) _)
        | exact HFIN.out _ (((HRR.out.setM _ HBL.out).set3 _).set2 _) (((Kept.setCells (by simp) _ _ _ (Kept.refl [r] wx)).setCell (by simp) _).setCell (by simp) _)
        | exact HFIN.out _ (((HRR.out.set2 _).set3 _).drew.setM _ HBL.out) (Kept.setCells (by simp) _ _ _ (((Kept.refl [r] wx).setCell (by simp) _).setCell (by simp) _).drew)
        | exact HFIN.out _ (((HRR.out.set3 _).set2 _).drew.setM _ HBL.out) (Kept.setCells (by simp) _ _ _ (((Kept.refl [r] wx).setCell (by simp) _).setCell (by simp) _).drew)
        | exact HFIN.out _ (((HRR.out.set2 _).drew.setM _ HBL.out).set3 _) ((Kept.setCells (by simp) _ _ _ ((Kept.refl [r] wx).setCell (by simp) _).drew).setCell (by simp) _)
        | exact HFIN.out _ (((HRR.out.set3 _).drew.setM _ HBL.out).set2 _) ((Kept.setCells (by simp) _ _ _ ((Kept.refl [r] wx).setCell (by simp) _).drew).setCell (by simp) _)
end Go.Proofs.Ytdnjjemdnlegdaa
namespace Go.Proofs.Ytdnjjemdnlegdaa
set_option linter.unusedVariables false
set_option linter.unusedSimpArgs false
open Go Go.RowKit

theorem Fr.keptP {F : Nat → Prop} {P : Nat} {w w' : World} (h : Kept [P] w w') : Fr (fun k => F k ∧ k ≠ P) w w' := ⟨[P], h, fun k hm hf => hf.2 (by simpa using hm)⟩
theorem PlayAt.less {A A' : Nat → Prop} {w : World} {P p g q r gr s : Nat} {x0 x1 x2 : Int} {d : Dk.D} {o : Option Slo.L} (h : PlayAt A w P p g q r gr s x0 x1 x2 d o) (ha : ∀ k, A' k → A k) (hP : A' P) : PlayAt A' w P p g q r gr s x0 x1 x2 d o :=
  ⟨h.row, hP, h.duo.less ha, h.fit⟩
theorem PlayAt.drewN {A : Nat → Prop} {w : World} {P p g q r gr s : Nat} {x0 x1 x2 : Int} {d : Dk.D} {o : Option Slo.L} (h : PlayAt A w P p g q r gr s x0 x1 x2 d o) (n : Nat) : PlayAt A (w.drewN n) P p g q r gr s x0 x1 x2 d o :=
  ⟨h.row, h.own, h.duo.drewN (PP.part _ _ _ _ _) (RP.part _ _ _ _ _) n, h.fit⟩

theorem st_keep2 {W : World} {P r i : Nat} {u : Value} (hP : P ≠ r) (h : W.cell? ⟨P, i, none⟩ = some u ∧ W.cell? ⟨r, 1, none⟩ = some (cellOf W ⟨r, 1, none⟩) ∧ W.frozen? ⟨r, 1, none⟩ = false ∧ W.cell? ⟨r, 2, none⟩ = some (cellOf W ⟨r, 2, none⟩) ∧ W.frozen? ⟨r, 2, none⟩ = false) (n : Nat) (vs : List Value) :
    (W.setCells r n vs).cell? ⟨P, i, none⟩ = some u ∧ (W.setCells r n vs).cell? ⟨r, 1, none⟩ = some (cellOf (W.setCells r n vs) ⟨r, 1, none⟩) ∧ (W.setCells r n vs).frozen? ⟨r, 1, none⟩ = false ∧ (W.setCells r n vs).cell? ⟨r, 2, none⟩ = some (cellOf (W.setCells r n vs) ⟨r, 2, none⟩) ∧ (W.setCells r n vs).frozen? ⟨r, 2, none⟩ = false := by
  obtain ⟨h1, h5, h6, h7, h8⟩ := h
  exact ⟨(World.cell?_of_block (a := ⟨P, i, none⟩) (setCells_other r P hP vs n W)).trans h1, cellOf_some (World.isSome_setCells r vs n W ⟨r, 1, none⟩ (by rw [h5]; rfl)), by rw [frozen_setCells]; exact h6, cellOf_some (World.isSome_setCells r vs n W ⟨r, 2, none⟩ (by rw [h7]; rfl)), by rw [frozen_setCells]; exact h8⟩
set_option maxRecDepth 100000 in
set_option maxHeartbeats 4000000 in
theorem do_again {A : Nat → Prop} {w : World} {P p g q r gr s : Nat} {x0 x1 x2 : Int} {d : Dk.D} {o : Option Slo.L} (h : PlayAt A w P p g q r gr s x0 x1 x2 d o) (wt wh at_ : Int) (mask : List (BitVec 8)) (v : Value) (hm : mask.length = 16)
    (hk : (wt.tmod 6 + 6).tmod 6 = 4) (hw0 : -9223372036854775808 ≤ wt) (hw1 : wt ≤ 9223372036854775807) (k1 : x1 ≤ 1000) (k2 : x2 ≤ 1000) (k3 : -9223372036854775808 ≤ x2) :
    Calls Try.prog 37 #[.pointer (some ⟨P, 0, none⟩), actV9 wt wh at_ mask v] w (PlayD A w P p g r gr x0 x1 x2) := by
  obtain ⟨W, hW⟩ : ∃ W, w.alloc (.cells (actC9 wt wh at_ mask v).toArray 53) = W := ⟨_, rfl⟩
  have hX : ActBox w W w.heap.size wt wh at_ mask v := by rw [← hW]; exact ActBox.new w wt wh at_ mask v
  have hP : PlayAt (fun k => A k ∨ k = w.heap.size) W P p g q r gr s x0 x1 x2 d o := by rw [← hW]; exact h.more _
  have e0 := hX.c0
  have c0 := hP.c0
  have q1 : IntKind.i64.wrap (wt.tmod 6 + 6) = wt.tmod 6 + 6 := by
    have := Int.tmod_lt_of_pos wt (show (0 : Int) < 6 by decide)
    have := Int.lt_tmod_of_pos wt (show (0 : Int) < 6 by decide)
    rw [IntKind.wrap_i64]; omega
  unfold actV9
  go_enter Try.func37, Try.ntmps37
  go_upto_region 8 with fail
  have HP := Lib.hid hP
  have HRS := Lib.hid (pp_restart hP.duo (RP.part _ _ _ _ _))
  have HBW := Lib.hid (show Below w.heap.size w W by rw [← hW]; exact (Below.refl _ w).alloc (Nat.le_refl _) _)
  have HAP := Lib.hid h.own
  clear hX hP e0 q1 h hW
  go_upto_region 9 with (go_at_call 25; refine HRS.out.mono ?_; rintro e w1 ⟨rfl, hD, hF⟩; have HY := Lib.hid (And.intro hD hF); clear hD hF)
  have hrd := rp_disk HY.out.1
  have hrP : P ≠ r := (hrd.2 P HP.out.own).1
  have y1 := fr_cell HY.out.2 HP.out.own HP.out.c1
  obtain ⟨wh', mk', hA⟩ := hrd.1
  have HRR := Lib.hid (RR.of hA)
  have g1 := cellOf_some (show (w1.cell? ⟨r, 1, none⟩).isSome = true by rw [hA.c1]; rfl)
  have g2 := cellOf_some (show (w1.cell? ⟨r, 2, none⟩).isSome = true by rw [hA.c2]; rfl)
  have f1 := hA.fr 1
  have f2 := hA.fr 2
  have HOP := Lib.hid (show ∀ W', RR W' r gr d.b (.bool false) (.bool false) (.int .i64 wh') (bcells mk') → Kept [r] w1 W' → PlayAt (fun k => A k ∨ k = w.heap.size) W' P p g q r gr s x0 x1 x2 (Dk.restart d) o ∧ Fr (fun k => A k ∧ k ≠ P) w W' from by
    intro W' hr hk
    have h5 := rp_set (d' := Dk.restart d) (w' := W') HY.out.1 (PP.part _ _ _ _ _) (hk.mono (by simp)) (fun _ => ⟨wh', mk', RR.at' (d := Dk.restart d) hr rfl (fun h => absurd h (show ¬ (0 : Int) ≤ -1 by decide)) hA.mlen hA.small⟩)
    exact ⟨⟨(h5.2.block P (Nat.lt_of_lt_of_le HP.out.lt HY.out.2.size) HP.out.own).trans ((HY.out.2.block P HP.out.lt HP.out.own).trans HP.out.row), HP.out.own, h5.1, HP.out.fit⟩,
      (Fr.ofBelow HBW.out).trans ((HY.out.2.mono fun k hk => .inl hk.1).trans (h5.2.mono fun k hk => .inl hk.1))⟩)
  clear hA hrd c0
  go_cut [3] (fun s3 wx => Hid (PlayAt (fun k => A k ∨ k = w.heap.size) wx P p g q r gr s x0 x1 x2 (Dk.restart d) o ∧ Fr (fun k => A k ∧ k ≠ P) w wx))
  case first =>
    go_region_held3 (fun W' => W'.cell? ⟨P, 1, none⟩ = some (.pointer (some ⟨r, 0, none⟩)) ∧ W'.cell? ⟨r, 1, none⟩ = some (cellOf W' ⟨r, 1, none⟩) ∧ W'.frozen? ⟨r, 1, none⟩ = false ∧ W'.cell? ⟨r, 2, none⟩ = some (cellOf W' ⟨r, 2, none⟩) ∧ W'.frozen? ⟨r, 2, none⟩ = false) (first | exact ⟨by assumption, by assumption, by assumption, by assumption, by assumption⟩ | exact st_keep2 hrP (by assumption) 1 [_] | exact st_keep2 hrP (by assumption) 2 [_]) (fail)
    all_goals (go_wp2_with fail; go_meet)
    all_goals first
      | exact Lib.hid (HOP.out _ ((HRR.out.set1 _).set2 _) (((Kept.refl [r] w1).setCell (by simp) _).setCell (by simp) _))
      | exact Lib.hid (HOP.out _ ((HRR.out.set1 _).set2 _).drew (((Kept.refl [r] w1).setCell (by simp) _).setCell (by simp) _).drew)
      | exact Lib.hid (HOP.out _ ((HRR.out.set2 _).set1 _) (((Kept.refl [r] w1).setCell (by simp) _).setCell (by simp) _))
      | exact Lib.hid (HOP.out _ ((HRR.out.set2 _).set1 _).drew (((Kept.refl [r] w1).setCell (by simp) _).setCell (by simp) _).drew)
  case rest =>
    obtain ⟨w2, rfl⟩ : ∃ x, x = wc := ⟨_, rfl⟩
    have HC := hcut
    have HO := Lib.hid (play_open HC.out.1 k1 k2 k3)
    go_wp2_with (go_at_call 36; refine HO.out.mono ?_; rintro e w3 ⟨rfl, hX, hK⟩; have HX := Lib.hid hX; have HK := Lib.hid hK; clear hX hK)
    go_ret
    obtain ⟨q', s', o', hX⟩ := HX.out
    exact ⟨rfl, ⟨q', s', o', _, hX.less (fun k hk => .inl hk) HAP.out⟩, HC.out.2.trans (Fr.keptP HK.out)⟩
end Go.Proofs.Ytdnjjemdnlegdaa
namespace Go.Proofs.Ytdnjjemdnlegdaa
set_option linter.unusedVariables false
set_option linter.unusedSimpArgs false
open Go Go.RowKit

theorem SlB.fr {F : Nat → Prop} {w w' : World} {v : Value} {xs : List (BitVec 8)} (h : SlB w v xs) (hf : Fr F w w') (hv : xs ≠ [] → ∀ k, v.ownBlock = some k → F k) : SlB w' v xs := by
  obtain ⟨K, hK, hKF⟩ := hf
  exact h.keptA hK fun h0 k hk hm => hKF k hm (hv h0 k hk)
theorem putTo_full (ys : List (BitVec 8)) (o : Nat) (b : List (BitVec 8)) (ho : o + ys.length ≤ b.length) : putTo (fun _ => true) ys o b ys.length = splice b o ys := by
  refine Dk.ext_getD (by rw [putTo_length, length_splice _ _ _ ho]) fun j hj => ?_
  rw [putTo_getD _ _ _ _ _ _ ho, Dk.splice_getD _ _ _ _ ho]
  by_cases h1 : o ≤ j ∧ j < o + ys.length
  · rw [if_pos h1, if_pos ⟨h1.1, h1.2, rfl⟩]
  · rw [if_neg h1, if_neg (fun h => h1 ⟨h.1, h.2.1⟩)]
theorem pp_put {A : Nat → Prop} {Ψ : (Nat → Prop) → World → Prop} {w : World} {p g q : Nat} {d : Dk.D} {o : Option Slo.L} (h : Duo A (PP p g q d o) Ψ w) (hΨ : Part Ψ) (at_ : Int) (v : Value) (xs : List (BitVec 8)) (hs : SlB w v xs) (hl : xs.length ≤ 1000000000) (ha0 : -9223372036854775808 ≤ at_) (ha1 : at_ ≤ 9223372036854775807) :
    Calls Try.prog 16 #[.pointer (some ⟨p, 0, none⟩), .int .i64 at_, v] w fun e w' => e = .returned (.int .i64 (Dk.putAt d at_ xs).2) ∧ Duo A (PP p g q (Dk.putAt d at_ xs).1 o) Ψ w' ∧ Fr A w w' := by
  obtain ⟨F, hf, hF, hA, hc⟩ := h.left hΨ
  refine (dk_put (PP.disk hf).1 at_ v xs hs hl ha0 ha1).mono ?_
  rintro e w' ⟨rfl, hD, hK⟩
  have h1 := PP.keptD hf hK hD
  exact ⟨rfl, hc _ _ h1.1 h1.2, h1.2.mono hA⟩
theorem RefD.setByte {w : World} {r gr : Nat} {d : Dk.D} (h : RefD w r gr d) (j : Nat) (x : BitVec 8) : RefD (w.setCell ⟨gr, j, none⟩ (.int .u8 (bv x))) r gr { d with b := d.b.set j x } := by
  obtain ⟨wh, mk, h⟩ := h
  exact ⟨wh, mk, h.setByte j x⟩
theorem fr_keep4 {F : Nat → Prop} {w w' : World} (h : Fr F w w') {P b i j k : Nat} {u v x : Value} (hP : F P) (hb : F b) (h0 : w.cell? ⟨P, i, none⟩ = some u) (h1 : w.cell? ⟨b, j, none⟩ = some v) (h2 : w.cell? ⟨b, k, none⟩ = some x) :
    w'.cell? ⟨P, i, none⟩ = some u ∧ w'.cell? ⟨b, j, none⟩ = some v ∧ w'.cell? ⟨b, k, none⟩ = some x :=
  ⟨fr_cell h hP h0, fr_cell h hb h1, fr_cell h hb h2⟩
theorem tmod6 (wt : Int) (hw0 : -9223372036854775808 ≤ wt) (hw1 : wt ≤ 9223372036854775807) : IntKind.i64.wrap (wt.tmod 6 + 6) = wt.tmod 6 + 6 := by
  have := Int.tmod_lt_of_pos wt (show (0 : Int) < 6 by decide)
  have := Int.lt_tmod_of_pos wt (show (0 : Int) < 6 by decide)
  rw [IntKind.wrap_i64]; omega

end Go.Proofs.Ytdnjjemdnlegdaa
namespace Go.Proofs.Ytdnjjemdnlegdaa
set_option linter.unusedVariables false
set_option linter.unusedSimpArgs false
open Go Go.RowKit

theorem wrap64_small (i : Nat) (h : i ≤ 1000000000) : wrap64 ((i : Int) + 1) = ((i + 1 : Nat) : Int) := by
  unfold wrap64
  omega
theorem down_one (n i : Nat) (h : i < n) : n - (intOf (.int .i64 ((i + 1 : Nat) : Int))).toNat < n - (intOf (.int .i64 (i : Int))).toNat := by
  simp only [intOf, Int.toNat_natCast]
  omega
theorem Fr.drew {F : Nat → Prop} {w w' : World} (h : Fr F w w') : Fr F w w'.drew := by
  obtain ⟨K, hK, hKF⟩ := h
  exact ⟨K, hK.drew, hKF⟩
set_option maxRecDepth 100000 in
set_option maxHeartbeats 4000000 in
theorem do_put {A : Nat → Prop} {w : World} {P p g q r gr s : Nat} {x0 x1 x2 : Int} {d : Dk.D} {o : Option Slo.L} (h : PlayAt A w P p g q r gr s x0 x1 x2 d o) (wt wh : Int) (at_ : Nat) (mask : List (BitVec 8)) (v : Value) (xs : List (BitVec 8)) (hm : mask.length = 16) (hs : SlB w v xs)
    (hv : xs ≠ [] → ∀ k, v.ownBlock = some k → A k) (hk : (wt.tmod 6 + 6).tmod 6 = 5) (hw0 : -9223372036854775808 ≤ wt) (hw1 : wt ≤ 9223372036854775807) (hc : at_ + xs.length ≤ d.b.length) (k1 : x1 ≤ 1000) (k2 : x2 ≤ 1000) (k3 : -9223372036854775808 ≤ x2) :
    Calls Try.prog 37 #[.pointer (some ⟨P, 0, none⟩), actV9 wt wh (at_ : Int) mask v] w (PlayD A w P p g r gr x0 x1 x2) := by
  obtain ⟨W, hW⟩ : ∃ W, w.alloc (.cells (actC9 wt wh (at_ : Int) mask v).toArray 53) = W := ⟨_, rfl⟩
  have hX : ActBox w W w.heap.size wt wh at_ mask v := by rw [← hW]; exact ActBox.new w wt wh at_ mask v
  have hP : PlayAt (fun k => A k ∨ k = w.heap.size) W P p g q r gr s x0 x1 x2 d o := by rw [← hW]; exact h.more _
  have HBW := Lib.hid (show Below w.heap.size w W by rw [← hW]; exact (Below.refl _ w).alloc (Nat.le_refl _) _)
  have hsz := hP.size.size
  have hsW := hs.below HBW.out (Nat.le_refl _)
  have hlen : d.b.length ≤ 2097152 := by obtain ⟨n, _, _, _⟩ := hsz; omega
  have HPUT := Lib.hid (pp_put (hP.duo.drewN (PP.part _ _ _ _ _) (RP.part _ _ _ _ _) 1) (RP.part _ _ _ _ _) (at_ : Int) v xs (hsW.drewN 1) (by omega) (by omega) (by omega))
  have hput : Dk.putAt d (at_ : Int) xs = ({ d with b := splice d.b at_ xs }, 0) := by
    unfold Dk.putAt
    rw [if_neg (by omega)]
    rfl
  rw [hput] at HPUT
  have HPA := Lib.hid hput
  have HPL := Lib.hid h.lt
  have e0 := hX.c0
  have e2 := hX.c2
  have e19 := hX.c19 hm
  have c0 := hP.c0
  have c1 := hP.c1
  obtain ⟨wh', mk', hA⟩ := (rp_disk hP.duo).1
  have r0 := hA.c0
  have q1 := tmod6 wt hw0 hw1
  have HP := Lib.hid hP
  have HAP := Lib.hid h.own
  have HSW := Lib.hid hsW
  have HFT := Lib.hid (putTo_full xs at_ d.b hc)
  have HVO := Lib.hid (show xs ≠ [] → ∀ k, v.ownBlock = some k → A k ∨ k = w.heap.size from fun h0 k hk => .inl (hv h0 k hk))
  have HFITO := Lib.hid h.fit
  clear hP hA h hs hsW hput hv hsz
  obtain ⟨a, cap, rfl⟩ := HSW.out.len
  obtain ⟨n, hn⟩ : ∃ n, xs.length = n := ⟨_, rfl⟩
  have HN := Lib.hid hn
  rw [hn] at hc e19 hX hW HPUT HSW HVO HFT ⊢
  obtain ⟨L, hL⟩ : ∃ L, d.b.length = L := ⟨_, rfl⟩
  have HL := Lib.hid hL
  rw [hL] at hc r0 hlen
  have HX := Lib.hid hX
  have d1 : decide ((at_ : Int) < 0) = false := decide_eq_false (by omega)
  have q2 : IntKind.i64.wrap ((at_ : Int) + n) = at_ + n := by rw [IntKind.wrap_i64]; omega
  have d2 : decide ((L : Int) < (at_ : Int) + n) = false := decide_eq_false (by omega)
  have d3 : decide ((L : Int) < (at_ : Int)) = false := decide_eq_false (by omega)
  clear hX hn hL
  unfold actV9
  go_enter Try.func37, Try.ntmps37
  go_upto_region 12 with fail
  have HNUM := Lib.hid (show n ≤ 1000000000 ∧ (at_ : Int) ≤ 9223372036854775807 ∧ -9223372036854775808 ≤ (at_ : Int) ∧ at_ + n ≤ L ∧ (L : Int) ≤ 9223372036854775807 from by omega)
  clear hlen
  go_quiet (fail)
  go_upto_region 14 with fail
  obtain ⟨w1, hw1'⟩ : ∃ w1, W.drewN nq = w1 := ⟨_, rfl⟩
  rw [hw1']
  have HB1 := Lib.hid (show Below w.heap.size w w1 by rw [← hw1']; exact Below.drewN HBW.out _)
  have HP1 := Lib.hid (show PlayAt (fun k => A k ∨ k = w.heap.size) w1 P p g q r gr s x0 x1 x2 d o by rw [← hw1']; exact HP.out.drewN _)
  have HX1 := Lib.hid (show ActBox w w1 w.heap.size wt wh at_ mask (.slice a n cap) by rw [← hw1']; exact ⟨HX.out.row⟩)
  have HS1 := Lib.hid (show SlB w1 (.slice a n cap) xs by rw [← hw1']; exact HSW.out.drewN _)
  have HPUT := Lib.hid (pp_put (HP1.out.duo.drewN (PP.part _ _ _ _ _) (RP.part _ _ _ _ _) 1) (RP.part _ _ _ _ _) (at_ : Int) _ xs (HS1.out.drewN 1) (by rw [HN.out]; exact HNUM.out.1) HNUM.out.2.2.1 HNUM.out.2.1)
  rw [HPA.out] at HPUT
  have c0 := HP1.out.c0
  have e2 := HX1.out.c2
  have e19 := HX1.out.c19 hm
  obtain ⟨b, hb⟩ : ∃ b, w.heap.size = b := ⟨_, rfl⟩
  have HBP := Lib.hid (show P ≠ b from fun e => by have := HPL.out; omega)
  rw [hb] at HP HP1 HX1 HVO HPUT e2 e19 ⊢
  have HK3 := Lib.hid (fun w' (hF : Fr (fun k => A k ∨ k = b) w1 w') => fr_keep4 hF HP1.out.own (.inr rfl) c0 e2 e19)
  clear hw1' HX HSW HBW e0 c1 r0 q1 q2 d1 d2 d3 HP hb hw0 hw1
  go_cut [6] (fun s6 wx => Hid (Duo (fun k => A k ∨ k = b) (PP p g q { d with b := splice d.b at_ xs } o) (RP r gr s d o) wx ∧ Fr (fun k => A k ∨ k = b) w1 wx))
  case first =>
    go_region_held3 (fun w' => w'.cell? ⟨P, 0, none⟩ = some (.pointer (some ⟨p, 0, none⟩)) ∧ w'.cell? ⟨b, 2, none⟩ = some (.int .i64 (at_ : Int)) ∧ w'.cell? ⟨b, 19, none⟩ = some (.slice a n cap)) (first | exact HK3.out _ HY.out.2 | exact ⟨by assumption, by assumption, by assumption⟩) (first | (go_at_call 16; refine HPUT.out.mono ?_; rintro e w' ⟨rfl, hD, hF⟩; have HY := Lib.hid (And.intro hD hF); clear hD hF))
    all_goals (go_wp2_with fail; go_meet)
    all_goals exact HY
  case rest =>
    obtain ⟨w2, rfl⟩ : ∃ x, x = wc := ⟨_, rfl⟩
    have HY := hcut
    have HA2 := Lib.hid (show Fr (fun k => A k ∧ k ≠ P) w w2 from (Fr.ofBelow HB1.out).trans (HY.out.2.mono fun k hk => .inl hk.1))
    clear c0 e2 e19
    go_wp2
    go_loopw [6] (fun s6 wr => ∃ i : Nat, i ≤ n ∧ s6 = .int .i64 i ∧ Hid (Duo (fun k => A k ∨ k = b) (PP p g q { d with b := splice d.b at_ xs } o) (RP r gr s { d with b := putTo (fun _ => true) xs at_ d.b i } o) wr ∧ Fr (fun k => A k ∨ k = b) w2 wr)) (fun s6 _ => n - (intOf s6).toNat)
    case atStart => exact ⟨0, by omega, rfl, Lib.hid ⟨HY.out.1, Fr.refl _ _⟩⟩
    case round =>
      obtain ⟨i, hi, rfl, HI⟩ := hrel
      have HF1 := Lib.hid (HY.out.2.trans HI.out.2)
      have e19 := fr_cell HF1.out (.inr rfl) (HX1.out.c19 hm)
      by_cases hlt : i < n
      · obtain ⟨tb, tf, cp2, htv, _, _⟩ := HS1.out.open_ n HN.out (by omega)
        have hte : a = some ⟨tb, tf, none⟩ ∧ cap = cp2 := by
          simp only [Value.slice.injEq] at htv
          exact ⟨htv.1, htv.2.2⟩
        obtain ⟨rfl, rfl⟩ := hte
        have HSI := Lib.hid (HS1.out.fr HF1.out HVO.out)
        have ct := HSI.out.cell i (by rw [HN.out]; exact hlt)
        have hrd := rp_disk HI.out.1
        have c1 := fr_cell HF1.out HP1.out.own HP1.out.c1
        have e2 := fr_cell HF1.out (.inr rfl) HX1.out.c2
        obtain ⟨wh', mk', hA⟩ := hrd.1
        have r0 := hA.c0
        have gb := cellOf_some (show (wr.cell? ⟨gr, at_ + i, none⟩).isSome = true by rw [hA.byte (at_ + i) (by rw [putTo_length, HL.out]; have := HNUM.out.2.2.2.1; omega)]; rfl)
        have gf := hA.frg (at_ + i)
        rw [show (putTo (fun _ => true) xs at_ d.b i).length = L by rw [putTo_length, HL.out]] at r0
        have HST := Lib.hid (show Duo (fun k => A k ∨ k = b) (PP p g q { d with b := splice d.b at_ xs } o) (RP r gr s { d with b := putTo (fun _ => true) xs at_ d.b (i + 1) } o) (wr.setCell ⟨gr, at_ + i, none⟩ (.int .u8 (bv (xs.getD i 0)))) ∧ Fr (fun k => A k ∨ k = b) wr (wr.setCell ⟨gr, at_ + i, none⟩ (.int .u8 (bv (xs.getD i 0)))) from
          rp_set HI.out.1 (PP.part _ _ _ _ _) ((Kept.refl _ wr).setCell (by simp) _) (fun h => h.setByte (at_ + i) (xs.getD i 0)))
        unfold byteV at ct
        generalize bv (xs.getD i 0) = y at ct HST
        have hin : (i : Int) < n := by omega
        have hia : (at_ : Int) + i < L := by have := HNUM.out.2.2.2.1; omega
        have hia2 : at_ + i < L := by omega
        have hnu := HNUM.out
        have q3 : IntKind.i64.wrap ((at_ : Int) + i) = ((at_ + i : Nat) : Int) := by rw [IntKind.wrap_i64]; omega
        have q4 : IntKind.i64.wrap ((at_ + i : Nat) : Int) = ((at_ + i : Nat) : Int) := by rw [IntKind.wrap_i64]; omega
        have q5 : IntKind.i64.wrap (i : Int) = (i : Int) := by rw [IntKind.wrap_i64]; omega
        have hjl : ((at_ + i : Nat) : Int) < L := by omega
        clear hA hrd htv hnu
        obtain ⟨j, hj⟩ : ∃ j, at_ + i = j := ⟨_, rfl⟩
        rw [hj] at q3 q4 hjl gb gf HST hia2
        have HJ := Lib.hid hj
        clear hj hia
        go_upto_region 18 with fail
        go_still_tail 17, (by kernel_rfl)
        go_wp2
        rw [wrap64_small i (Nat.le_trans (Nat.le_of_lt hlt) HNUM.out.1)]
        exact ⟨⟨i + 1, hlt, rfl, Lib.hid ⟨HST.out.1.drewN (PP.part _ _ _ _ _) (RP.part _ _ _ _ _) 1, (HI.out.2.trans HST.out.2).drew⟩⟩, down_one n i hlt⟩
      · obtain rfl : i = n := by omega
        have hd := HI.out.1
        rw [HFT.out] at hd
        have HC := Lib.hid (show PlayAt (fun k => A k ∨ k = b) wr P p g q r gr s x0 x1 x2 { d with b := splice d.b at_ xs } o from
          ⟨(HF1.out.block P HP1.out.lt HP1.out.own).trans HP1.out.row, HP1.out.own, hd, fun l e => by have := HFITO.out l e; show _ ≤ (splice d.b at_ xs).length; rw [length_splice _ _ _ (by rw [HN.out, HL.out]; exact HNUM.out.2.2.2.1)]; exact this⟩)
        have HO := Lib.hid (play_open HC.out k1 k2 k3)
        have HA3 := Lib.hid (HA2.out.trans (HI.out.2.mono fun k hk => .inl hk.1))
        clear hd
        go_wp2_with (go_at_call 36; refine HO.out.mono ?_; rintro e w3 ⟨rfl, hX, hK⟩; have HX := Lib.hid hX; have HK := Lib.hid hK; clear hX hK)
        go_ret
        obtain ⟨q', s', o', hX⟩ := HX.out
        exact ⟨rfl, ⟨q', s', o', _, hX.less (fun k hk => .inl hk) HAP.out⟩, HA3.out.trans (Fr.keptP HK.out)⟩
end Go.Proofs.Ytdnjjemdnlegdaa
namespace Go.Proofs.Ytdnjjemdnlegdaa
set_option linter.unusedVariables false
set_option linter.unusedSimpArgs false
open Go Go.RowKit

theorem Fr.drewN {F : Nat → Prop} {w w' : World} (h : Fr F w w') (n : Nat) : Fr F w (w'.drewN n) := by
  obtain ⟨K, hK, hKF⟩ := h
  exact ⟨K, hK.drewN n, hKF⟩
theorem OwnB.frO {F : Nat → Prop} {E base : Nat} {w w' : World} {v : Value} {xs : List (BitVec 8)} (h : OwnB E base w v xs) (hf : Fr F w w') (hv : ∀ k, v.ownBlock = some k → F k) : OwnB E base w' v xs := by
  obtain ⟨K, hk, hK⟩ := hf
  refine ⟨h.1, ?_⟩
  rcases h.2 with hn | ⟨g, cap, cur, rfl, h1, hb, h2⟩
  · exact .inl hn
  · refine .inr ⟨g, cap, cur, rfl, h1, ?_, h2⟩
    rw [hk.block g (Array.getElem?_eq_some_iff.1 hb).1 (fun hm => hK g hm (hv g rfl))]
    exact hb
section
variable {A : Nat → Prop} {Φ Ψ : (Nat → Prop) → World → Prop} {w : World} {p g q r gr s : Nat} {d : Dk.D} {l : Slo.L}
theorem pp_append (h : Duo A (PP p g q d (some l)) Ψ w) (hΨ : Part Ψ) (v : Value) (t : List (BitVec 8)) (hs : SlB w v t) (hv : t ≠ [] → ∀ k, v.ownBlock = some k → A k) :
    Calls Try.prog 30 #[.pointer (some ⟨q, 0, none⟩), v] w fun e w' => e = .returned (.int .i64 (Slo.append d l t).2.2) ∧ Duo A (PP p g q (Slo.append d l t).1 (some (Slo.append d l t).2.1)) Ψ w' ∧ Fr A w w' := by
  obtain ⟨F, hf, hF, hA, hc⟩ := h.left hΨ
  have hge := DL.ge hf
  refine (DL.append hf hF v t hs (fun h0 k hk hm => ?_)).mono ?_
  · have := hA k (hv h0 k hk)
    simp only [List.mem_cons, List.not_mem_nil, or_false] at hm
    rcases hm with rfl | rfl | rfl
    · exact hge.1 this
    · exact hge.2.1 this
    · exact hge.2.2 this
  · rintro e w' ⟨rfl, h1, h2⟩
    exact ⟨rfl, hc _ _ h1 h2, h2.mono hA⟩
theorem rp_append (h : Duo A Φ (RP r gr s d (some l)) w) (hΦ : Part Φ) (hok : Dk.Ok d) (hfit : 128 * (l.from_ + l.sectors) ≤ d.b.length) (v : Value) (t : List (BitVec 8)) (hs : SlB w v t) (hv : t ≠ [] → ∀ k, v.ownBlock = some k → A k) :
    Calls Try.prog 57 #[.pointer (some ⟨s, 0, none⟩), v] w fun e w' => e = .returned (.int .i64 (Slo.append d l t).2.2) ∧ Duo A Φ (RP r gr s (Slo.append d l t).1 (some (Slo.append d l t).2.1)) w' ∧ Fr A w w' := by
  obtain ⟨F, hf, hF, hA, hc⟩ := h.right hΦ
  have hge := RDL.ge hf
  refine (RDL.append hf hF hok hfit v t hs (fun h0 k hk hm => ?_)).mono ?_
  · have := hA k (hv h0 k hk)
    simp only [List.mem_cons, List.not_mem_nil, or_false] at hm
    rcases hm with rfl | rfl | rfl
    · exact hge.1 this
    · exact hge.2.1 this
    · exact hge.2.2 this
  · rintro e w' ⟨rfl, h1, h2⟩
    exact ⟨rfl, hc _ _ h1 h2, h2.mono hA⟩
theorem pp_room (h : Duo A (PP p g q d (some l)) Ψ w) (hΨ : Part Ψ) : Calls Try.prog 39 #[.pointer (some ⟨q, 0, none⟩)] w fun e w' => e = .returned (.int .i64 (Slo.room l)) ∧ ∃ n, w' = w.drewN n := by
  obtain ⟨F, hf, hF, hA, hc⟩ := h.left hΨ
  exact DL.room hf
theorem pp_used (h : Duo A (PP p g q d (some l)) Ψ w) (hΨ : Part Ψ) : Calls Try.prog 34 #[.pointer (some ⟨q, 0, none⟩)] w fun e w' => e = .returned (.int .i64 (l.used : Nat)) ∧ w = w' := by
  obtain ⟨F, hf, hF, hA, hc⟩ := h.left hΨ
  exact DL.used hf
theorem rp_room (h : Duo A Φ (RP r gr s d (some l)) w) (hΦ : Part Φ) : Calls Try.prog 58 #[.pointer (some ⟨s, 0, none⟩)] w fun e w' => e = .returned (.int .i64 (Slo.room l)) ∧ ∃ n, w' = w.drewN n := by
  obtain ⟨F, hf, hF, hA, hc⟩ := h.right hΦ
  exact RDL.room hf
theorem rp_used (h : Duo A Φ (RP r gr s d (some l)) w) (hΦ : Part Φ) : w.cell? ⟨s, 4, none⟩ = some (.int .i64 (l.used : Nat)) := by
  obtain ⟨F, hf, hF, hA, hc⟩ := h.right hΦ
  obtain ⟨vt, vs, h1, h2, h3⟩ := hf
  exact h2.c4
theorem Duo.ok (h : Duo A (PP p g q d (some l)) Ψ w) : Dk.Ok d := by
  obtain ⟨F, G, h1, _⟩ := h
  exact (PP.disk h1).1.ok
end
theorem Slo.append_place (d : Dk.D) (l : Slo.L) (t : List (BitVec 8)) : (Slo.append d l t).2.1.from_ = l.from_ ∧ (Slo.append d l t).2.1.sectors = l.sectors := by
  unfold Slo.append
  split
  · exact ⟨rfl, rfl⟩
  · split
    · exact ⟨rfl, rfl⟩
    · split
      · exact ⟨rfl, rfl⟩
      · split
        · exact ⟨rfl, rfl⟩
        · split <;> exact ⟨rfl, rfl⟩

set_option maxRecDepth 100000 in
set_option maxHeartbeats 4000000 in
theorem do_append_nil {A : Nat → Prop} {w : World} {P p g q r gr s : Nat} {x0 x1 x2 : Int} {d : Dk.D} (h : PlayAt A w P p g q r gr s x0 x1 x2 d none) (wt wh at_ : Int) (mask : List (BitVec 8)) (v : Value) (hm : mask.length = 16)
    (hk3 : ¬ (wt.tmod 6 + 6).tmod 6 = 3) (hk4 : ¬ (wt.tmod 6 + 6).tmod 6 = 4) (hk5 : ¬ (wt.tmod 6 + 6).tmod 6 = 5) (hw0 : -9223372036854775808 ≤ wt) (hw1 : wt ≤ 9223372036854775807) :
    Calls Try.prog 37 #[.pointer (some ⟨P, 0, none⟩), actV9 wt wh at_ mask v] w (PlayD A w P p g r gr x0 x1 x2) := by
  obtain ⟨W, hW⟩ : ∃ W, w.alloc (.cells (actC9 wt wh at_ mask v).toArray 53) = W := ⟨_, rfl⟩
  have hX : ActBox w W w.heap.size wt wh at_ mask v := by rw [← hW]; exact ActBox.new w wt wh at_ mask v
  have hP : PlayAt (fun k => A k ∨ k = w.heap.size) W P p g q r gr s x0 x1 x2 d none := by rw [← hW]; exact h.more _
  have HBW := Lib.hid (show Below w.heap.size w W by rw [← hW]; exact (Below.refl _ w).alloc (Nat.le_refl _) _)
  have e0 := hX.c0
  have e19 := hX.c19 hm
  have c2 : W.cell? ⟨P, 2, none⟩ = some (.pointer none) := hP.c2
  have c3 : W.cell? ⟨P, 3, none⟩ = some (.pointer none) := hP.c3
  have q1 := tmod6 wt hw0 hw1
  have HFIN := Lib.hid (show ∀ m, PlayD A w P p g r gr x0 x1 x2 (.returned (.bool true)) (W.drewN m) from fun m => ⟨rfl, ⟨q, s, none, d, (hP.drewN m).less (fun k hk => .inl hk) h.own⟩, Fr.ofBelow (Below.drewN HBW.out m)⟩)
  have HNO := Lib.hid (fun w => (slo_append_no (u := v) (slo_is_nil w)).mono (R' := fun e w' => e = .returned (.int .i64 1) ∧ w' = w) (by rintro e w' ⟨rfl, rfl⟩; exact ⟨rfl, rfl⟩))
  clear hP hX h
  unfold actV9
  go_enter Try.func37, Try.ntmps37
  go_upto_region 21 with fail
  go_quiet ((go_at_call 30; with_reducible exact Calls.quiet_of_same (HNO.out _)))
  go_wp2
  go_ret
  exact HFIN.out _
end Go.Proofs.Ytdnjjemdnlegdaa
namespace Go.Proofs.Ytdnjjemdnlegdaa
set_option linter.unusedVariables false
set_option linter.unusedSimpArgs false
open Go Go.RowKit

theorem beq_int_self (a : Int) : (a == a) = true := by simp
theorem u8_xor255 (x : BitVec 8) : bits .xor .u8 (bv x) 255 = bv (x ^^^ 255) := u8_xor' x 255
set_option maxRecDepth 100000 in
set_option maxHeartbeats 8000000 in
theorem do_append {A : Nat → Prop} {w : World} {P p g q r gr s : Nat} {x0 x1 x2 : Int} {d : Dk.D} {l : Slo.L} (h : PlayAt A w P p g q r gr s x0 x1 x2 d (some l)) (wt wh at_ : Int) (mask : List (BitVec 8)) (v : Value) (t : List (BitVec 8)) (hm : mask.length = 16) (hs : SlB w v t)
    (hv : t ≠ [] → ∀ k, v.ownBlock = some k → A k) (hl : t.length ≤ 1000000000)
    (hk3 : ¬ (wt.tmod 6 + 6).tmod 6 = 3) (hk4 : ¬ (wt.tmod 6 + 6).tmod 6 = 4) (hk5 : ¬ (wt.tmod 6 + 6).tmod 6 = 5) (hw0 : -9223372036854775808 ≤ wt) (hw1 : wt ≤ 9223372036854775807) :
    Calls Try.prog 37 #[.pointer (some ⟨P, 0, none⟩), actV9 wt wh at_ mask v] w (PlayD A w P p g r gr x0 x1 x2) := by
  obtain ⟨W, hW⟩ : ∃ W, w.alloc (.cells (actC9 wt wh at_ mask v).toArray 53) = W := ⟨_, rfl⟩
  have hX : ActBox w W w.heap.size wt wh at_ mask v := by rw [← hW]; exact ActBox.new w wt wh at_ mask v
  have hP : PlayAt (fun k => A k ∨ k = w.heap.size) W P p g q r gr s x0 x1 x2 d (some l) := by rw [← hW]; exact h.more _
  have HBW := Lib.hid (show Below w.heap.size w W by rw [← hW]; exact (Below.refl _ w).alloc (Nat.le_refl _) _)
  have HAP := Lib.hid h.own
  have HPL := Lib.hid h.lt
  have HOK := Lib.hid h.size
  have hsW := hs.below HBW.out (Nat.le_refl _)
  have HSW := Lib.hid hsW
  have HVO := Lib.hid (show t ≠ [] → ∀ k, v.ownBlock = some k → A k ∨ k = w.heap.size from fun h0 k hk => .inl (hv h0 k hk))
  have HFITO := Lib.hid (h.fit l rfl)
  have e0 := hX.c0
  have e19 := hX.c19 hm
  have c3 : W.cell? ⟨P, 3, none⟩ = some (.pointer (some ⟨s, 0, none⟩)) := hP.c3
  have q1 := tmod6 wt hw0 hw1
  have e19' : (W.alloc (.cells #[] 5)).cell? ⟨w.heap.size, 19, none⟩ = some v := by
    have hb : Below W.heap.size W (W.alloc (.cells #[] 5)) := (Below.refl _ W).alloc (Nat.le_refl _) _
    exact (hb.cell (p := ⟨w.heap.size, 19, none⟩) (block_lt_of_cell e19).1).trans e19
  have HP := Lib.hid hP
  have HX := Lib.hid hX
  have HL := Lib.hid hl
  obtain ⟨a, cap, rfl⟩ := hsW.len
  clear hP hX h hs hsW hv hl
  unfold actV9
  go_enter Try.func37, Try.ntmps37
  go_upto_region 23 with (at_builtin; refine wpList_append_b rfl (.tmp 171) (.tmp 173) 22 5 rfl Try.underlying22 info_u8 W.heap.size _ [] (OwnB.made W [] (Nat.le_refl _) (by simp)) rfl _ t (HSW.out.alloc _) rfl (by have := HL.out; simp; omega) (by simp) ?_; intro v5 w5 ho hg hn'; rw [List.nil_append] at ho; obtain ⟨a5, c5, rfl⟩ := ho.sl.len; have HO5 := Lib.hid ho; have HB5 := Lib.hid (((Below.refl W.heap.size W).alloc (Nat.le_refl _) _).grown hg (by simp) (fun k e => (World.ownsRow.lt (OwnB.made (E := 5) (base := W.heap.size) W [] (Nat.le_refl _) (by simp)) k e).1)); clear ho hg hn')
  have HD5 := Lib.hid (HP.out.duo.below (PP.part _ _ _ _ _) (RP.part _ _ _ _ _) HB5.out)
  have HVN := Lib.hid (show ∀ k, (Value.slice a5 t.length c5).ownBlock = some k → (W.heap.size ≤ k ∧ k < w5.heap.size) from fun k hk => World.ownsRow.lt HO5.out k hk)
  have HA1 := Lib.hid (pp_append HD5.out (RP.part _ _ _ _ _) _ t HO5.out.sl (fun _ k hk => .inr (HVN.out k hk)))
  obtain ⟨b, hb⟩ : ∃ b, w.heap.size = b := ⟨_, rfl⟩
  have HAL := Lib.hid (show ∀ k, A k ∨ k = b → k < W.heap.size from fun k hk => HP.out.duo.lt k (by rw [hb]; exact hk))
  have HBX' := Lib.hid (show (A b ∨ b = b) ∨ (W.heap.size ≤ b ∧ b < w5.heap.size) from .inl (.inr rfl))
  have HPX' := Lib.hid (show A P ∨ P = b from .inl HAP.out)
  have HPW := Lib.hid HP.out.lt
  have HC23 := Lib.hid (And.intro HP.out.c2 HP.out.c3)
  have HPX := Lib.hid (show (A P ∨ P = w.heap.size) ∨ (W.heap.size ≤ P ∧ P < w5.heap.size) from .inl HP.out.own)
  have HBX := Lib.hid (show (A b ∨ b = w.heap.size) ∨ (W.heap.size ≤ b ∧ b < w5.heap.size) from .inl (.inr hb.symm))
  have c2 : w5.cell? ⟨P, 2, none⟩ = some (.pointer (some ⟨q, 0, none⟩)) := (HB5.out.cell (p := ⟨P, 2, none⟩) HP.out.lt).trans HP.out.c2
  have HX5 := Lib.hid (HX.out.kept (Kept.ofBelow (l := []) HB5.out (Nat.le_refl _)) (by simp))
  have HPR := Lib.hid ((HB5.out.block P HP.out.lt).trans HP.out.row)
  have HLW := Lib.hid (show P < w5.heap.size from Nat.lt_of_lt_of_le HP.out.lt HB5.out.size)
  clear e0 e19 e19' c3 q1
  obtain ⟨R, hR⟩ : ∃ R, Slo.append d l t = R := ⟨_, rfl⟩
  obtain ⟨d2, l2, c⟩ := R
  rw [hR] at HA1
  go_upto_region 24 with (go_at_call 30; refine HA1.out.mono ?_; rintro e w6 ⟨rfl, hD, hF⟩; have HD6 := Lib.hid hD; have HF6 := Lib.hid hF; clear hD hF)
  have HF6' := HF6
  have c3 := fr_cell HF6.out HPX.out ((HB5.out.cell (p := ⟨P, 3, none⟩) HP.out.lt).trans HP.out.c3)
  have e19 := fr_cell HF6.out (.inl (.inr rfl)) (HX5.out.c19 hm)
  have HF6b := Lib.hid (show Fr (fun k => A k ∨ k = b) w5 w6 from HF6.out.mono fun k hk => .inl (by rw [hb]; exact hk))
  have HS6 := Lib.hid ((HSW.out.below HB5.out (Nat.le_refl _)).fr HF6.out (fun h0 k hk => .inl (HVO.out h0 k hk)))
  have HA2 := Lib.hid (rp_append (HD6.out.drewN (PP.part _ _ _ _ _) (RP.part _ _ _ _ _) 1) (PP.part _ _ _ _ _) HOK.out HFITO.out _ t (HS6.out.drewN 1) (fun h0 k hk => .inl (HVO.out h0 k hk)))
  rw [hR] at HA2
  have HR := Lib.hid hR
  have c3' : w6.cell? ⟨P, 3, none⟩ = some (.pointer (some ⟨s, 0, none⟩)) := c3
  rw [hb] at e19 HD6 HF6 HA2 HPX HVO HX5
  have HK2 := Lib.hid (fun w' (hF : Fr (fun k => (A k ∨ k = b) ∨ (W.heap.size ≤ k ∧ k < w5.heap.size)) w6 w') => And.intro (fr_cell hF HPX.out c3') (fr_cell hF (.inl (.inr rfl)) e19))
  clear c2 c3 hR HA1 HD5
  go_cut [9] (fun s9 wx => s9 = .int .i64 c ∧ Hid (Duo (fun k => (A k ∨ k = b) ∨ (W.heap.size ≤ k ∧ k < w5.heap.size)) (PP p g q d2 (some l2)) (RP r gr s d2 (some l2)) wx ∧ Fr (fun k => (A k ∨ k = b) ∨ (W.heap.size ≤ k ∧ k < w5.heap.size)) w6 wx))
  case first =>
    go_region_held3 (fun w' => w'.cell? ⟨P, 3, none⟩ = some (.pointer (some ⟨s, 0, none⟩)) ∧ w'.cell? ⟨b, 19, none⟩ = some (.slice a t.length cap)) (first | exact HK2.out _ HY.out.2 | exact ⟨by assumption, by assumption⟩) (first | (go_at_call 57; refine HA2.out.mono ?_; rintro e w' ⟨rfl, hD, hF⟩; have HY := Lib.hid (And.intro hD hF); clear hD hF))
    all_goals (go_wp2_with fail; go_meet)
    all_goals exact ⟨rfl, HY⟩
  case rest =>
    obtain ⟨rfl, HY⟩ := hcut
    obtain ⟨w7, rfl⟩ : ∃ x, x = wc := ⟨_, rfl⟩
    have HF7 := Lib.hid (HF6.out.trans HY.out.2)
    have HO7 := Lib.hid (HO5.out.frO HF7.out (fun k hk => .inr (HVN.out k hk)))
    have HN := Lib.hid (show (∃ n, t.length = n) from ⟨_, rfl⟩)
    obtain ⟨N, hN⟩ := HN.out
    rw [hN] at HO7 HVN ⊢
    have HNL := Lib.hid (show t.length = N ∧ N ≤ 1000000000 from ⟨hN, by rw [← hN]; exact HL.out⟩)
    have HPL2 := Lib.hid (Slo.append_place d l t)
    have HLEN := Lib.hid (Slo.append_len HOK.out l t)
    rw [HR.out] at HPL2 HLEN
    clear c3' e19 hN HN HA2 HK2
    go_wp2
    go_loopw [10] (fun s10 wr => ∃ i : Nat, i ≤ N ∧ s10 = .int .i64 i ∧ Hid (∃ xs : List (BitVec 8), xs.length = N ∧ OwnB 5 W.heap.size wr (.slice a5 N c5) xs) ∧ Hid (Duo (fun k => (A k ∨ k = b) ∨ (W.heap.size ≤ k ∧ k < w5.heap.size)) (PP p g q d2 (some l2)) (RP r gr s d2 (some l2)) wr) ∧ Hid (Fr (fun k => A k ∨ k = b) w6 wr)) (fun s10 _ => N - (intOf s10).toNat)
    case atStart => exact ⟨0, Nat.zero_le _, rfl, Lib.hid ⟨t, HNL.out.1, HO7.out⟩, Lib.hid HY.out.1, Lib.hid (HY.out.2.mono fun k hk => .inl hk)⟩
    case round =>
      obtain ⟨i, hi, rfl, HXS, HDU, HFR⟩ := hrel
      by_cases hlt : i < N
      · obtain ⟨xs, hxl, hxo⟩ := HXS.out
        obtain ⟨g6, c6, hv6, hg6, hg6l, _⟩ := hxo.form N hxl (by omega)
        have hte : a5 = some ⟨g6, 0, none⟩ ∧ c5 = c6 := by
          simp only [Value.slice.injEq] at hv6
          exact ⟨hv6.1, hv6.2.2⟩
        obtain ⟨rfl, rfl⟩ := hte
        have c0 := hxo.get_cell i (by rw [hxl]; exact hlt)
        have f0 := hxo.not_frozen i
        have HSET := Lib.hid (hxo.set_cell i (by rw [hxl]; exact hlt) (xs.getD i 0 ^^^ 255))
        have HXL := Lib.hid (show (xs.set i (xs.getD i 0 ^^^ 255)).length = N by rw [List.length_set]; exact hxl)
        have HG := Lib.hid (HVN.out g6 rfl)
        have HBS := Lib.hid (HDU.out.set (w' := wr.setCell ⟨g6, i, none⟩ (.int .u8 (bv (xs.getD i 0 ^^^ 255)))) (PP.part _ _ _ _ _) (RP.part _ _ _ _ _) (K := [g6]) ((Kept.refl _ wr).setCell (by simp) _) (by intro k hk; simp only [List.mem_singleton] at hk; subst hk; exact .inr HG.out))
        have HFS := Lib.hid (HFR.out.trans (show Fr (fun k => A k ∨ k = b) wr (wr.setCell ⟨g6, i, none⟩ (.int .u8 (bv (xs.getD i 0 ^^^ 255)))) from ⟨[g6], (Kept.refl _ wr).setCell (by simp) _, by intro k hk hA; simp only [List.mem_singleton] at hk; subst hk; have := HAL.out k hA; have := HG.out.1; omega⟩))
        generalize hxs : xs.set i (xs.getD i 0 ^^^ 255) = zs at HSET HXL
        have hxr : bits .xor .u8 (bv (xs.getD i 0)) 255 = bv (xs.getD i 0 ^^^ 255) := u8_xor' _ 255
        unfold byteV at c0
        generalize xs.getD i 0 ^^^ 255 = z at hxr HSET HBS HFS hxs
        generalize xs.getD i 0 = y at c0 hxr
        clear hxs hxo hxl HXS hv6 hg6 hg6l
        go_wp2
        rw [wrap64_small i (Nat.le_trans (Nat.le_of_lt hlt) HNL.out.2)]
        exact ⟨⟨i + 1, hlt, rfl, Lib.hid ⟨zs, HXL.out, HSET.out⟩, HBS, HFS⟩, down_one N i hlt⟩
      · obtain rfl : i = N := by omega
        have c2 : wr.cell? ⟨P, 2, none⟩ = some (.pointer (some ⟨q, 0, none⟩)) := fr_cell (F := fun k => A k ∨ k = b) (HF6b.out.trans HFR.out) HPX'.out ((HB5.out.cell (p := ⟨P, 2, none⟩) HPW.out).trans HC23.out.1)
        have c3 : wr.cell? ⟨P, 3, none⟩ = some (.pointer (some ⟨s, 0, none⟩)) := fr_cell (F := fun k => A k ∨ k = b) (HF6b.out.trans HFR.out) HPX'.out ((HB5.out.cell (p := ⟨P, 3, none⟩) HPW.out).trans HC23.out.2)
        have c4 := rp_used HDU.out (PP.part _ _ _ _ _)
        have HPRM := Lib.hid (fun m => pp_room (HDU.out.drewN (PP.part _ _ _ _ _) (RP.part _ _ _ _ _) m) (RP.part _ _ _ _ _))
        have HRRM := Lib.hid (fun m => rp_room (HDU.out.drewN (PP.part _ _ _ _ _) (RP.part _ _ _ _ _) m) (PP.part _ _ _ _ _))
        have HPU := Lib.hid (fun m => (pp_used (HDU.out.drewN (PP.part _ _ _ _ _) (RP.part _ _ _ _ _) m) (RP.part _ _ _ _ _)).mono (R' := fun e w' => e = .returned (.int .i64 (l2.used : Nat)) ∧ w' = wr.drewN m) (by rintro e w' ⟨rfl, rfl⟩; exact ⟨rfl, rfl⟩))
        have HFIN := Lib.hid (show ∀ m, PlayD A w P p g r gr x0 x1 x2 (.returned (.bool true)) (wr.drewN m) from fun m => ⟨rfl, ⟨q, s, some l2, d2, ⟨((HF6b.out.trans HFR.out).block P HLW.out HPX'.out).trans HPR.out, HAP.out, (HDU.out.drewN (PP.part _ _ _ _ _) (RP.part _ _ _ _ _) m).less fun k hk => .inl (.inl hk), fun l' e => by cases e; rw [HPL2.out.1, HPL2.out.2, HLEN.out]; exact HFITO.out⟩⟩,
          (Fr.ofBelow (HBW.out.trans (HB5.out.mono HBW.out.size))).trans (((HF6b.out.trans HFR.out).mono fun k hk => .inl hk.1).drewN m)⟩)
        generalize Slo.room l2 = ρ at HPRM HRRM
        generalize l2.used = μ at c4 HPU
        go_upto_region 29 with fail
        go_quiet (first
          | (go_at_call 39; with_reducible exact Calls.quiet_of (HPRM.out _))
          | (go_at_call 58; with_reducible exact Calls.quiet_of (HRRM.out _))
          | (go_at_call 34; with_reducible exact Calls.quiet_of_same (HPU.out _)))
        go_wp2
        go_ret
        exact HFIN.out _
end Go.Proofs.Ytdnjjemdnlegdaa
namespace Go.Proofs.Ytdnjjemdnlegdaa
set_option linter.unusedVariables false
set_option linter.unusedSimpArgs false
open Go Go.RowKit

set_option maxRecDepth 100000 in
set_option maxHeartbeats 4000000 in
theorem do_put_no {A : Nat → Prop} {w : World} {P p g q r gr s : Nat} {x0 x1 x2 : Int} {d : Dk.D} {o : Option Slo.L} (h : PlayAt A w P p g q r gr s x0 x1 x2 d o) (wt wh at_ : Int) (mask : List (BitVec 8)) (v : Value) (xs : List (BitVec 8)) (hm : mask.length = 16) (hs : SlB w v xs)
    (hk : (wt.tmod 6 + 6).tmod 6 = 5) (hw0 : -9223372036854775808 ≤ wt) (hw1 : wt ≤ 9223372036854775807)
    (hc : at_ < 0 ∨ (¬ at_ < 0 ∧ IntKind.i64.wrap (at_ + xs.length) ≤ d.b.length ∧ (d.b.length : Int) < at_) ∨ (¬ at_ < 0 ∧ (d.b.length : Int) < IntKind.i64.wrap (at_ + xs.length))) :
    Calls Try.prog 37 #[.pointer (some ⟨P, 0, none⟩), actV9 wt wh at_ mask v] w (PlayD A w P p g r gr x0 x1 x2) := by
  obtain ⟨W, hW⟩ : ∃ W, w.alloc (.cells (actC9 wt wh at_ mask v).toArray 53) = W := ⟨_, rfl⟩
  have hX : ActBox w W w.heap.size wt wh at_ mask v := by rw [← hW]; exact ActBox.new w wt wh at_ mask v
  have hP : PlayAt (fun k => A k ∨ k = w.heap.size) W P p g q r gr s x0 x1 x2 d o := by rw [← hW]; exact h.more _
  have HBW := Lib.hid (show Below w.heap.size w W by rw [← hW]; exact (Below.refl _ w).alloc (Nat.le_refl _) _)
  have e0 := hX.c0
  have e2 := hX.c2
  have e19 := hX.c19 hm
  obtain ⟨a, cap, rfl⟩ := hs.len
  obtain ⟨n, hn⟩ : ∃ n, xs.length = n := ⟨_, rfl⟩
  rw [hn] at hc e19 hX hW ⊢
  have c1 := hP.c1
  obtain ⟨wh', mk', hA⟩ := (rp_disk hP.duo).1
  have r0 := hA.c0
  have q1 := tmod6 wt hw0 hw1
  have HP := Lib.hid hP
  have HAP := Lib.hid h.own
  have HFIN := Lib.hid (show ∀ m, PlayD A w P p g r gr x0 x1 x2 (.returned (.bool true)) (W.drewN m) from fun m => ⟨rfl, ⟨q, s, o, d, (hP.drewN m).less (fun k hk => .inl hk) h.own⟩, Fr.ofBelow (Below.drewN HBW.out m)⟩)
  generalize d.b.length = L at hc r0
  clear hP hA h hX
  unfold actV9
  rcases hc with h1 | ⟨h1, h2, h3⟩ | ⟨h1, h2⟩
  · have d1 : decide (at_ < 0) = true := decide_eq_true h1
    go_enter Try.func37, Try.ntmps37
    go_upto_region 12 with fail
    go_quiet (fail)
    go_wp2
    go_ret
    exact HFIN.out _
  · skip
    -- ARM a
    have d1 : decide (at_ < 0) = false := decide_eq_false h1
    have d2 : decide ((L : Int) < IntKind.i64.wrap (at_ + n)) = false := decide_eq_false (by omega)
    have d3 : decide ((L : Int) < at_) = true := decide_eq_true h3
    go_enter Try.func37, Try.ntmps37
    go_upto_region 12 with fail
    clear h2
    go_quiet (fail)
    go_wp2
    go_ret
    exact HFIN.out _
    -- END a
  · skip
    -- ARM b
    have d1 : decide (at_ < 0) = false := decide_eq_false h1
    have d2 : decide ((L : Int) < IntKind.i64.wrap (at_ + n)) = true := decide_eq_true h2
    obtain ⟨z, hz⟩ : ∃ z, IntKind.i64.wrap (at_ + n) = z := ⟨_, rfl⟩
    rw [hz] at d2
    clear h1 h2
    go_enter Try.func37, Try.ntmps37
    go_upto_region 12 with fail
    go_quiet (fail)
    go_wp2
    go_ret
    exact HFIN.out _
    -- END b
end Go.Proofs.Ytdnjjemdnlegdaa
namespace Go.Proofs.Ytdnjjemdnlegdaa
set_option linter.unusedVariables false
set_option linter.unusedSimpArgs false
open Go Go.RowKit

set_option maxRecDepth 100000 in
theorem dk_new_no (n : Int) (h0 : n < 1) (w : World) : Calls Try.prog 14 #[.int .i64 n] w fun e w' => e = .returned (.tuple #[.pointer none, .int .i64 2]) ∧ w = w' := by
  go_enter Try.func14, Try.ntmps14
  go_wp2
  go_ret2
  exact ⟨rfl, rfl⟩
/-- How long a text is, as it lies in memory. -/
def lenOf (w : World) (a : Addr) : Nat := match w.cell? a with
  | some (.slice _ n _) => n
  | _ => 0
def LargeR (w : World) (x0 : Int) (a : Option Addr) (n : Nat) (e : Ending) (w' : World) : Prop :=
  ∃ b : Bool, e = .returned (.bool b) ∧ Below w.heap.size w w' ∧ (b = false → n ≤ 30 ∧ x0 ≤ 60 ∧ ∀ i, i < n → ∀ bk off, a = some ⟨bk, off, none⟩ → lenOf w ⟨bk, off + i * 20 + 19, none⟩ ≤ 2000)
set_option maxRecDepth 100000 in
set_option maxHeartbeats 2000000 in
theorem large_any {w : World} (x0 x1 x2 : Int) (a : Option Addr) (n cap : Nat) (h : Acts9 w a n) (hn : n ≤ cap) (hc : cap ≤ maxLen) : Calls Try.prog 35 #[.agg #[.int .i64 x0, .int .i64 x1, .int .i64 x2], .slice a n cap] w (LargeR w x0 a n) := by
  obtain ⟨W, hW⟩ : ∃ W, w.alloc (.cells #[.int .i64 x0, .int .i64 x1, .int .i64 x2] 61) = W := ⟨_, rfl⟩
  have HBW := Lib.hid (show Below w.heap.size w W by rw [← hW]; exact (Below.refl _ w).alloc (Nat.le_refl _) _)
  have c0 : W.cell? ⟨w.heap.size, 0, none⟩ = some (.int .i64 x0) := by rw [← hW]; exact cell_of_row _ _ 0 _ _ _ (heap_alloc_new w _)
  have H := Lib.hid h
  have hml : (n : Int) ≤ 9223372036854775807 := by unfold maxLen at hc; omega
  clear h
  go_enter Try.func35, Try.ntmps35
  go_wp2
  go_loop [5] (fun s5 => ∃ k : Nat, k ≤ n ∧ k ≤ 40 ∧ s5 = .int .i64 k ∧ Hid (∀ i, i < k → ∀ bk off, a = some ⟨bk, off, none⟩ → lenOf w ⟨bk, off + i * 20 + 19, none⟩ ≤ 2000)) (fun s5 => n - (intOf s5).toNat)
  case atStart => exact ⟨0, Nat.zero_le _, Nat.zero_le _, rfl, Lib.hid fun i hi => absurd hi (Nat.not_lt_zero _)⟩
  case round =>
    obtain ⟨k, hk, hk40, rfl, HI⟩ := hrel
    by_cases hlt : k < n
    · by_cases h40 : k < 40
      · obtain ⟨b, off, rfl, hbl, hx⟩ := H.out (by omega)
        obtain ⟨wt, wh, at_, mask, v, xs, hra, hs, hml2, r1, r2, r3⟩ := hx k hlt
        obtain ⟨a1, cap1, rfl⟩ := hs.len
        have c19 : w.cell? ⟨b, off + k * 20 + 19, none⟩ = some (.slice a1 xs.length cap1) := by
          refine hra 19 _ ?_
          rw [actC9, List.getElem?_append_right (by simp), List.getElem?_append_right (by rw [bcells_length, hml2]; simp), bcells_length, hml2]
          rfl
        have HLO := Lib.hid (show lenOf w ⟨b, off + k * 20 + 19, none⟩ = xs.length by unfold lenOf; rw [c19])
        have d19 := (HBW.out.cell (p := ⟨b, off + k * 20 + 19, none⟩) hbl).trans c19
        obtain ⟨m, hm⟩ : ∃ m, xs.length = m := ⟨_, rfl⟩
        rw [hm] at d19 HLO
        clear hx hra hs c19 hm r1 r2 r3
        by_cases h2 : 2000 < m
        · go_wp2
          go_ret
          exact ⟨true, rfl, HBW.out, fun e => by cases e⟩
        · go_wp2
          refine ⟨⟨k + 1, hlt, by omega, by go_num, Lib.hid fun i hi bk of e => ?_⟩, by simp [intOf]; omega⟩
          by_cases hik : i < k
          · exact HI.out i hik bk of e
          · obtain rfl : i = k := by omega
            simp only [Option.some.injEq, Addr.mk.injEq] at e
            obtain ⟨rfl, rfl, _⟩ := e
            rw [HLO.out]
            omega
      · go_wp2
        go_ret
        exact ⟨true, by go_num, HBW.out, fun e => by cases e⟩
    · obtain rfl : k = n := by omega
      have HN := Lib.hid hlt
      by_cases h30 : 30 < k
      · go_wp2
        go_ret
        exact ⟨true, by go_num, HBW.out, fun e => by cases e⟩
      · go_wp2
        go_ret
        refine ⟨decide (60 < x0), ?_, HBW.out, fun e => ⟨by omega, ?_, HI.out⟩⟩
        · show Ending.returned (.bool (decide ((30 : Int) < k) || decide (60 < x0))) = Ending.returned (.bool (decide (60 < x0)))
          rw [decide_eq_false (by omega), Bool.false_or]
        · exact Int.not_lt.1 (of_decide_eq_false e)
end Go.Proofs.Ytdnjjemdnlegdaa
namespace Go.Proofs.Ytdnjjemdnlegdaa
set_option linter.unusedVariables false
set_option linter.unusedSimpArgs false
open Go Go.RowKit

theorem do_any {A : Nat → Prop} {w : World} {P p g q r gr s : Nat} {x0 x1 x2 : Int} {d : Dk.D} {o : Option Slo.L} (h : PlayAt A w P p g q r gr s x0 x1 x2 d o) (wt wh at_ : Int) (mask : List (BitVec 8)) (v : Value) (t : List (BitVec 8)) (hm : mask.length = 16) (hs : SlB w v t)
    (hv : t ≠ [] → ∀ k, v.ownBlock = some k → A k) (hl : t.length ≤ 1000000000) (hw : -9223372036854775808 ≤ wt ∧ wt ≤ 9223372036854775807) (hwh : wh ≤ 9223372036854775807) (ha : -9223372036854775808 ≤ at_ ∧ at_ ≤ 9223372036854775807) (k1 : x1 ≤ 1000) (k2 : x2 ≤ 1000) (k3 : -9223372036854775808 ≤ x2) :
    Calls Try.prog 37 #[.pointer (some ⟨P, 0, none⟩), actV9 wt wh at_ mask v] w (PlayD A w P p g r gr x0 x1 x2) := by
  by_cases c3 : (wt.tmod 6 + 6).tmod 6 = 3
  · exact do_cut h wt wh at_ mask v hm hwh c3 hw.1 hw.2
  by_cases c4 : (wt.tmod 6 + 6).tmod 6 = 4
  · exact do_again h wt wh at_ mask v hm c4 hw.1 hw.2 k1 k2 k3
  by_cases c5 : (wt.tmod 6 + 6).tmod 6 = 5
  · by_cases h1 : at_ < 0
    · exact do_put_no h wt wh at_ mask v t hm hs c5 hw.1 hw.2 (.inl h1)
    by_cases h2 : (d.b.length : Int) < IntKind.i64.wrap (at_ + t.length)
    · exact do_put_no h wt wh at_ mask v t hm hs c5 hw.1 hw.2 (.inr (.inr ⟨h1, h2⟩))
    by_cases h3 : (d.b.length : Int) < at_
    · exact do_put_no h wt wh at_ mask v t hm hs c5 hw.1 hw.2 (.inr (.inl ⟨h1, Int.not_lt.1 h2, h3⟩))
    obtain ⟨n, _, _, h4⟩ := h.size.size
    have h5 : IntKind.i64.wrap (at_ + t.length) = at_ + t.length := by rw [IntKind.wrap_i64]; omega
    rw [h5] at h2
    obtain ⟨m, rfl⟩ : ∃ m : Nat, at_ = m := ⟨at_.toNat, by omega⟩
    exact do_put h wt wh m mask v t hm hs hv c5 hw.1 hw.2 (by omega) k1 k2 k3
  cases o with
  | none => exact do_append_nil h wt wh at_ mask v hm c3 c4 c5 hw.1 hw.2
  | some l => exact do_append h wt wh at_ mask v t hm hs hv hl c3 c4 c5 hw.1 hw.2

theorem fr_undrew {F : Nat → Prop} {w w' : World} {n : Nat} (h : Fr F (w.drewN n) w') : Fr F w w' := by
  obtain ⟨K, hK, hKF⟩ := h
  exact ⟨K, hK, hKF⟩
theorem PlayAt.below {A : Nat → Prop} {w w' : World} {P p g q r gr s : Nat} {x0 x1 x2 : Int} {d : Dk.D} {o : Option Slo.L} (h : PlayAt A w P p g q r gr s x0 x1 x2 d o) (hb : Below w.heap.size w w') : PlayAt A w' P p g q r gr s x0 x1 x2 d o :=
  ⟨(hb.block P h.lt).trans h.row, h.own, (h.duo.below (PP.part _ _ _ _ _) (RP.part _ _ _ _ _) hb).less fun k hk => .inl hk, h.fit⟩
theorem pp_all {A : Nat → Prop} {Ψ : (Nat → Prop) → World → Prop} {w : World} {p g q : Nat} {d : Dk.D} {l : Slo.L} (h : Duo A (PP p g q d (some l)) Ψ w) (hΨ : Part Ψ) :
    Calls Try.prog 32 #[.pointer (some ⟨q, 0, none⟩)] w fun e w' => ∃ v, e = .returned v ∧ SlS w' v l.texts ∧ Below w.heap.size w w' := by
  obtain ⟨F, hf, hF, hA, hc⟩ := h.left hΨ
  refine (DL.all hf).mono ?_
  rintro e w' ⟨vo, us, rfl, ht, _, hb⟩
  exact ⟨vo, rfl, ht.sls, hb⟩
theorem rp_texts {A : Nat → Prop} {Φ : (Nat → Prop) → World → Prop} {w : World} {r gr s : Nat} {d : Dk.D} {l : Slo.L} (h : Duo A Φ (RP r gr s d (some l)) w) (hΦ : Part Φ) : ∃ vt, w.cell? ⟨s, 3, none⟩ = some vt ∧ SlS w vt l.texts ∧ l.texts.length ≤ 1000000 ∧ s < w.heap.size := by
  obtain ⟨F, hf, hF, hA, hc⟩ := h.right hΦ
  obtain ⟨vt, vs, h1, h2, h3⟩ := hf
  exact ⟨vt, h2.c3, h2.tx.sls, by have := h2.small; omega, h2.lt⟩
theorem same_self (xs : List (List (BitVec 8))) (u v : Value) (w : World) (hu : SlS w u xs) (hv : SlS w v xs) (hx : xs.length ≤ 1000000) :
    Calls Try.prog 38 #[u, v] w fun e w' => e = .returned (.bool true) ∧ Below w.heap.size w w' := by
  refine (rsame9_any xs xs u v w hu hv hx hx).mono ?_
  rintro e w' ⟨rfl, hb⟩
  exact ⟨by rw [decide_eq_true rfl], hb⟩
theorem play_start {w : World} {p g n B : Nat} {x0 x1 x2 : Int} (h : DiskAt w p g (Dk.fresh n)) (hp : B ≤ p ∧ B ≤ g) (hB : B ≤ w.heap.size) (W : World) (h0 : W.heap[w.heap.size]? = some (.cells (bytes (List.replicate (128 * n) 0)) 5 (0, 0)))
    (h1 : W.heap[w.heap.size + 1]? = some (.cells (([.slice (some ⟨w.heap.size, 0, none⟩) (128 * n) (128 * n), .bool false, .bool false, .int .i64 0] : List Value) ++ bcells (List.replicate 16 0)).toArray 66 (0, 0)))
    (h2 : W.heap[w.heap.size + 2]? = some (.cells #[.pointer (some ⟨p, 0, none⟩), .pointer (some ⟨w.heap.size + 1, 0, none⟩), .pointer none, .pointer none, .int .i64 x0, .int .i64 x1, .int .i64 x2] 69 (0, 0))) (hb : Below w.heap.size w W) (hn : n ≤ 16384) (hs : W.heap.size = w.heap.size + 3) :
    PlayAt (fun k => k < B ∨ k = w.heap.size + 2) W (w.heap.size + 2) p g 0 (w.heap.size + 1) w.heap.size 0 x0 x1 x2 (Dk.fresh n) none := by
  have hpp := h.ltp
  have hgg := h.ltg
  have hfl : (Dk.fresh n).b.length = 128 * n := by simp [Dk.fresh]; omega
  have hr : RefD W (w.heap.size + 1) w.heap.size (Dk.fresh n) := by
    refine ⟨0, List.replicate 16 0, ?_, ?_, by omega, by simp, fun h => absurd h (show ¬ (0 : Int) ≤ -1 by decide), by rw [hfl]; omega⟩
    · rw [h1, rcells, hfl]
      rfl
    · rw [h0]
      simp [Dk.fresh, Nat.mul_comm]
  refine ⟨h2, .inr rfl, ⟨fun k => k < B ∨ (w.heap.size ≤ k ∧ k < W.heap.size), fun k => k < w.heap.size ∨ k = w.heap.size + 2, ⟨h.below hb (Nat.le_refl _), by omega, by omega⟩, ⟨hr, by omega, by omega⟩, fun k hk => by omega, fun k hk => by omega, fun k hk => by omega, fun k hk => by omega⟩, fun l e => by cases e⟩
theorem play_alloc {w : World} {p g m B : Nat} {x1 x2 : Int} (h : DiskAt w p g (Dk.fresh m)) (hp : B ≤ p ∧ B ≤ g) (hB : B ≤ w.heap.size) (hn : m ≤ 16384) (W : World)
    (hW : W = (((w.alloc (.cells (bytes (List.replicate (128 * m) 0)) 5)).alloc (.cells #[.slice (some ⟨w.heap.size, 0, none⟩) (128 * m) (128 * m), .bool false, .bool false, .int .i64 0, .int .u8 0, .int .u8 0, .int .u8 0, .int .u8 0, .int .u8 0, .int .u8 0, .int .u8 0, .int .u8 0, .int .u8 0, .int .u8 0, .int .u8 0, .int .u8 0, .int .u8 0, .int .u8 0, .int .u8 0, .int .u8 0] 66)).alloc (.cells #[.pointer (some ⟨p, 0, none⟩), .pointer (some ⟨w.heap.size + 1, 0, none⟩), .pointer none, .pointer none, .int .i64 (m : Int), .int .i64 x1, .int .i64 x2] 69)).drew) :
    PlayAt (fun k => k < B ∨ k = w.heap.size + 2) W (w.heap.size + 2) p g 0 (w.heap.size + 1) w.heap.size 0 (m : Int) x1 x2 (Dk.fresh m) none ∧ Below w.heap.size w W := by
  have hb : Below w.heap.size w W := by
    rw [hW]
    exact ((((Below.refl _ w).alloc (Nat.le_refl _) _).alloc (by simp) _).alloc (by simp; omega) _).drew
  refine ⟨play_start h hp hB W ?_ ?_ ?_ hb hn (by rw [hW]; show (((w.alloc _).alloc _).alloc _).heap.size = _; simp), hb⟩
  · rw [hW]
    show (((w.alloc _).alloc _).alloc _).heap[w.heap.size]? = _
    rw [heapA_old _ _ _ (by simp; omega), heapA_old _ _ _ (by simp), heapA_new _ _ _ rfl]
  · rw [hW]
    show (((w.alloc _).alloc _).alloc _).heap[w.heap.size + 1]? = _
    rw [heapA_old _ _ _ (by simp), heapA_new _ _ _ (by simp)]
    rfl
  · rw [hW]
    show (((w.alloc _).alloc _).alloc _).heap[w.heap.size + 2]? = _
    rw [heapA_new _ _ _ (by simp)]
end Go.Proofs.Ytdnjjemdnlegdaa
