/-
  Package epoch: what bytes tell; is, Value; the library's IndexFunc and ContainsFunc.
-/
import Derived.Test.YtdnjjemdnlegdaaDk6
import Derived.Test.YtdnjjemdnlegdaaEpS
import Derived.Shelf.Abstract
namespace Go.Proofs.Ytdnjjemdnlegdaa
set_option linter.unusedVariables false
set_option linter.unusedSimpArgs false
open Go Go.RowKit

theorem ep_ne1 (x : BitVec 8) (w : World) : Calls Try.prog 60 #[.int .u8 (bv x)] w fun e w' => e = .returned (.bool (decide (x ≠ 1))) ∧ w = w' := by
  have h : (bv x != 1) = decide (x ≠ 1) := by
    by_cases hx : x = 1
    · subst hx; decide
    · simp only [hx, ne_eq, not_false_eq_true, decide_true, bne_iff_ne]
      exact fun hc => hx (bv_inj hc)
  generalize decide (x ≠ 1) = r at h ⊢
  go_enter Try.func60, Try.ntmps60
  go_wp2
  go_ret
  exact ⟨rfl, rfl⟩
theorem ep_ne0 (x : BitVec 8) (w : World) : Calls Try.prog 62 #[.int .u8 (bv x)] w fun e w' => e = .returned (.bool (decide (x ≠ 0))) ∧ w = w' := by
  have h : (bv x != 0) = decide (x ≠ 0) := by
    by_cases hx : x = 0
    · subst hx; decide
    · simp only [hx, ne_eq, not_false_eq_true, decide_true, bne_iff_ne]
      exact fun hc => hx (bv_inj hc)
  generalize decide (x ≠ 0) = r at h ⊢
  go_enter Try.func62, Try.ntmps62
  go_wp2
  go_ret
  exact ⟨rfl, rfl⟩

/-- The first place where something holds; -1: nowhere. -/
def IdxAt (p : BitVec 8 → Bool) (xs : List (BitVec 8)) (r : Int) : Prop :=
  (r = -1 ∧ ∀ j, j < xs.length → p (xs.getD j 0) = false) ∨ ∃ k : Nat, r = k ∧ k < xs.length ∧ p (xs.getD k 0) = true ∧ ∀ j, j < k → p (xs.getD j 0) = false
def RetIdx (p : BitVec 8 → Bool) (xs : List (BitVec 8)) (w : World) (e : Ending) (w' : World) : Prop := ∃ r : Int, e = .returned (.int .i64 r) ∧ IdxAt p xs r ∧ w = w'

theorem idx_any (f : Nat) (hcf : ∀ (args : Array Value) (w : World), (callFunc f args).run Try.prog w = .ok (.enter f args) w) (p : BitVec 8 → Bool) (hf : ∀ (x : BitVec 8) (w : World), Calls Try.prog f #[.int .u8 (bv x)] w fun e w' => e = .returned (.bool (p x)) ∧ w = w') (v : Value) (xs : List (BitVec 8)) (w : World) (hs : SlB w v xs) :
    Calls Try.prog 59 #[v, .func (.func f) #[] #[]] w (RetIdx p xs w) := by
  have HF := Lib.hid hf
  obtain ⟨a, cap, rfl⟩ := hs.len
  have hb := hs.bounds.2
  have hm : maxLen = 9223372036854775807 := by decide
  rw [hm] at hb
  have HS := Lib.hid hs
  clear hs hf hm
  go_enter Try.func59, Try.ntmps59
  go_wp2
  go_loop [8] (fun i => ∃ k : Nat, k ≤ xs.length ∧ i = .int .i64 k ∧ Hid (∀ j, j < k → p (xs.getD j 0) = false)) (fun i => xs.length - (intOf i).toNat)
  case atStart => exact ⟨0, Nat.zero_le _, rfl, Lib.hid (fun j hj => absurd hj (by omega))⟩
  case round =>
    obtain ⟨k, hk, rfl, HK⟩ := hrel
    by_cases hlt : k < xs.length
    · obtain ⟨b, off, c, hv, _, _⟩ := HS.out.open_ xs.length rfl (by omega)
      simp only [Value.slice.injEq] at hv
      obtain ⟨rfl, _, rfl⟩ := hv
      have c0 := HS.out.cell k hlt
      unfold byteV at c0
      have HP := Lib.hid (show ∀ j, j < k + 1 → p (xs.getD k 0) = false → p (xs.getD j 0) = false by
        intro j hj hp
        by_cases e : j = k
        · subst e; exact hp
        · exact HK.out j (by omega))
      have HFK := Lib.hid (HF.out (xs.getD k 0))
      have HX := Lib.hid (show ∀ b, p (xs.getD k 0) = b → p (xs.getD k 0) = b from fun b h => h)
      generalize hpx : p (xs.getD k 0) = px at HFK HP HX
      have HPX := Lib.hid hpx
      clear hpx
      generalize xs.getD k 0 = x at c0 HFK
      generalize hn : xs.length = n at *
      have HN := Lib.hid hn
      clear hn
      cases px with
      | true =>
        go_wp2
        refine (HFK.out _).mono ?_
        rintro e w' ⟨rfl, rfl⟩
        go_wp2
        go_ret
        exact ⟨(k : Int), rfl, .inr ⟨k, rfl, by rw [HN.out]; exact hlt, HPX.out, HK.out⟩, rfl⟩
      | false =>
        go_wp2
        refine (HFK.out _).mono ?_
        rintro e w' ⟨rfl, rfl⟩
        go_wp2
        go_round
        case rel => exact ⟨k + 1, by omega, by go_num, Lib.hid (fun j hj => HP.out j hj trivial)⟩
        case measure => simp [intOf]; omega
    · obtain rfl : k = xs.length := by omega
      go_wp2
      go_ret
      exact ⟨-1, rfl, .inl ⟨rfl, HK.out⟩, rfl⟩

theorem contains_any (f : Nat) (hcf : ∀ (args : Array Value) (w : World), (callFunc f args).run Try.prog w = .ok (.enter f args) w) (p : BitVec 8 → Bool) (hf : ∀ (x : BitVec 8) (w : World), Calls Try.prog f #[.int .u8 (bv x)] w fun e w' => e = .returned (.bool (p x)) ∧ w = w') (v : Value) (xs : List (BitVec 8)) (w : World) (hs : SlB w v xs) (b : Bool)
    (hb : b = true ↔ ∃ j, j < xs.length ∧ p (xs.getD j 0) = true) :
    Calls Try.prog 61 #[v, .func (.func f) #[] #[]] w fun e w' => e = .returned (.bool b) ∧ w = w' := by
  have HI := Lib.hid (idx_any f hcf p hf v xs w hs)
  have HB := Lib.hid hb
  clear hf hb hs hcf
  go_enter Try.func61, Try.ntmps61
  go_wp2_with (go_at_call 59; refine HI.out.mono ?_; rintro e w' ⟨r, rfl, hr, rfl⟩; have HR := Lib.hid hr; clear hr)
  go_ret
  refine ⟨?_, rfl⟩
  rcases HR.out with ⟨rfl, hn⟩ | ⟨k, rfl, hk, hp, _⟩
  · have : b = false := by
      cases hbb : b with
      | false => rfl
      | true =>
        obtain ⟨j, hj, hpj⟩ := HB.out.1 hbb
        rw [hn j hj] at hpj
        cases hpj
    rw [this]
    rfl
  · have : b = true := HB.out.2 ⟨k, hk, hp⟩
    rw [this]
    simp
theorem call_ne1 (args : Array Value) (w : World) : (callFunc 60 args).run Try.prog w = .ok (.enter 60 args) w := Go.Proofs.enters_of Try.func60 (by kernel_rfl) rfl args w
theorem call_ne0 (args : Array Value) (w : World) : (callFunc 62 args).run Try.prog w = .ok (.enter 62 args) w := Go.Proofs.enters_of Try.func62 (by kernel_rfl) rfl args w
end Go.Proofs.Ytdnjjemdnlegdaa
