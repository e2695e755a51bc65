/-
  hmac.Equal: are two texts the same?
-/
import Derived.Test.YtnoilogepkelaaaDoorHmaB
namespace Go.Proofs.YtnoilogepkelaaaDoor
set_option linter.unusedVariables false
set_option linter.unusedSimpArgs false
open Go Go.RowKit
attribute [local go_sem] u8_xor' u8_or'

theorem Hma.unlike_eq (a b : List (BitVec 8)) (n : Nat) (ha : a.length = n) (hb : b.length = n) : Hma.unlike a b n = 0 ↔ a = b := by
  rw [Hma.unlike_zero]
  constructor
  · intro h
    exact Sha.ext8 (by omega) (fun j hj => h j (by omega))
  · rintro rfl
    intros
    rfl

set_option maxRecDepth 100000 in
theorem equal_len (a b : List (BitVec 8)) (v0 v1 : Value) (w : World) (h0 : SlB w v0 a) (h1 : SlB w v1 b) (hne : a.length ≠ b.length) :
    Calls Tryd.prog 43 #[v0, v1] w fun e w' => e = .returned (.bool (decide (a = b))) ∧ Below w.heap.size w w' := by
  obtain ⟨a0, cap0, rfl⟩ := h0.len
  obtain ⟨a1, cap1, rfl⟩ := h1.len
  rw [decide_eq_false (fun h => hne (congrArg List.length h))]
  generalize a.length = n0 at *
  generalize b.length = n1 at *
  have h : ((n0 : Int) != (n1 : Int)) = true := by rw [bne_iff_ne]; omega
  have h' : ¬ (n0 : Int) = (n1 : Int) := by omega
  clear h0 h1 hne
  go_enter Tryd.func43, Tryd.ntmps43
  go_wp2
  go_ret
  exact ⟨rfl, Below.refl _ w⟩

set_option maxRecDepth 100000 in
set_option maxHeartbeats 1000000 in
theorem equal_same (a b : List (BitVec 8)) (n : Nat) (ha : a.length = n) (hb : b.length = n) (v0 v1 : Value) (w : World) (h0 : SlB w v0 a) (h1 : SlB w v1 b) (hm : a.length ≤ 50000000) :
    Calls Tryd.prog 43 #[v0, v1] w fun e w' => e = .returned (.bool (decide (a = b))) ∧ Below w.heap.size w w' := by
  obtain ⟨a0, cap0, rfl⟩ := h0.len
  obtain ⟨a1, cap1, rfl⟩ := h1.len
  have HU := Lib.hid (Hma.unlike_eq a b n ha hb)
  have HS := Lib.hid (fun k => (show Hma.unlike a b (k + 1) = Hma.unlike a b k ||| (a.getD k 0 ^^^ b.getD k 0) from rfl))
  have HL := Lib.hid (And.intro ha hb)
  rw [ha] at h0 hm ⊢
  rw [hb] at h1 ⊢
  have H0 := Lib.hid h0
  have H1 := Lib.hid h1
  obtain ⟨r, hr⟩ : ∃ r, decide (a = b) = r := ⟨_, rfl⟩
  have HR := Lib.hid hr
  rw [hr]
  clear h0 h1 ha hb hr
  go_enter Tryd.func43, Tryd.ntmps43
  go_wp2
  go_loopw [5, 14] (fun s5 s14 wr => ∃ i : Nat, i ≤ n ∧ s14 = .int .i64 i ∧ s5 = .int .u8 (bv (Hma.unlike a b i)) ∧ ∃ m, wr = w.drewN m) (fun _ s14 _ => n - (intOf s14).toNat)
  case atStart => exact ⟨0, by omega, rfl, rfl, 0, rfl⟩
  case round =>
    obtain ⟨i, hi, rfl, rfl, m, rfl⟩ := hrel
    by_cases hlt : i < n
    · have hs0 := H0.out
      have hs1 := H1.out
      obtain ⟨b0, o0, c0, e0, _, _⟩ := hs0.open_ n HL.out.1 (by omega)
      obtain ⟨b1, o1, c1, e1, _, _⟩ := hs1.open_ n HL.out.2 (by omega)
      simp only [Value.slice.injEq] at e0 e1
      obtain ⟨rfl, _, rfl⟩ := e0
      obtain ⟨rfl, _, rfl⟩ := e1
      have g0 := hs0.cell i (by rw [HL.out.1]; exact hlt)
      have g1 := hs1.cell i (by rw [HL.out.2]; exact hlt)
      have HSI := Lib.hid (HS.out i)
      unfold byteV at g0 g1
      generalize a.getD i 0 = x at g0 HSI
      generalize b.getD i 0 = y at g1 HSI
      generalize Hma.unlike a b i = z at HSI ⊢
      clear hs0 hs1
      go_upto_region 7 with fail
      go_quiet (fail)
      go_wp2
      exact ⟨⟨i + 1, by omega, by go_num, by rw [HSI.out], _, rfl⟩, by simp [intOf]; omega⟩
    · obtain rfl : i = n := by omega
      have hu := HU.out
      by_cases h : a = b
      · have hz := hu.2 h
        rw [hz]
        rw [show bv 0 = 0 from rfl]
        obtain rfl : r = true := by rw [← HR.out]; exact decide_eq_true h
        clear hu hz h
        go_wp2
        go_ret
        exact ⟨rfl, Below.drewN (Below.refl _ w) _⟩
      · obtain rfl : r = false := by rw [← HR.out]; exact decide_eq_false h
        have hz : ¬ Hma.unlike a b i = 0 := fun e => h (hu.1 e)
        generalize Hma.unlike a b i = z at *
        have hb0 : ¬ bv z = 0 := fun e => hz (bv_inj (e.trans (show (0 : Int) = bv 0 from rfl)))
        have hb1 : (bv z == 0) = false := by simpa using hb0
        clear hz hu h
        go_wp2
        go_ret
        exact ⟨rfl, Below.drewN (Below.refl _ w) _⟩
theorem equal_any (a b : List (BitVec 8)) (v0 v1 : Value) (w : World) (h0 : SlB w v0 a) (h1 : SlB w v1 b) (hm : a.length ≤ 50000000) :
    Calls Tryd.prog 43 #[v0, v1] w fun e w' => e = .returned (.bool (decide (a = b))) ∧ Below w.heap.size w w' := by
  by_cases h : a.length = b.length
  · exact equal_same a b _ h rfl v0 v1 w h0 h1 hm
  · exact equal_len a b v0 v1 w h0 h1 h
theorem equal_yes (a : List (BitVec 8)) (v0 v1 : Value) (w : World) (h0 : SlB w v0 a) (h1 : SlB w v1 a) (hm : a.length ≤ 50000000) :
    Calls Tryd.prog 43 #[v0, v1] w fun e w' => e = .returned (.bool true) ∧ Below w.heap.size w w' := by
  have h := equal_any a a v0 v1 w h0 h1 hm
  rwa [decide_eq_true (rfl : a = a)] at h
theorem equal_no (a b : List (BitVec 8)) (hne : a ≠ b) (v0 v1 : Value) (w : World) (h0 : SlB w v0 a) (h1 : SlB w v1 b) (hm : a.length ≤ 50000000) :
    Calls Tryd.prog 43 #[v0, v1] w fun e w' => e = .returned (.bool false) ∧ Below w.heap.size w w' := by
  have h := equal_any a b v0 v1 w h0 h1 hm
  rwa [decide_eq_false hne] at h
end Go.Proofs.YtnoilogepkelaaaDoor
