/-
  The document's answer for layer 10: Tells, Front; Value of no counter.
-/
import Derived.Test.YtdnjjemdnlegdaaEp4
namespace Go.Proofs.Ytdnjjemdnlegdaa
set_option linter.unusedVariables false
set_option linter.unusedSimpArgs false
open Go Go.RowKit

theorem ep_is_nil (w : World) : Calls Try.prog 63 #[.pointer none] w fun e w' => e = .returned (.bool false) ∧ w = w' := by
  go_enter Try.func63, Try.ntmps63
  go_wp2
  go_ret
  exact ⟨rfl, rfl⟩
theorem ep_value_nil (w : World) : Calls Try.prog 43 #[.pointer none] w fun e w' => e = .returned (.int .i64 0) ∧ w = w' := by
  go_enter Try.func43, Try.ntmps43
  go_wp2_with (go_at_call 63; refine (ep_is_nil _).mono ?_; rintro e w' ⟨rfl, rfl⟩)
  go_ret
  exact ⟨rfl, rfl⟩

/-- What Tells answers. -/
def TellsR (xs : List (BitVec 8)) (r e : Int) : Prop := (∃ m : Nat, Ep.Tells xs m ∧ r = m ∧ e = 0) ∨ ((∀ m, ¬ Ep.Tells xs m) ∧ r = 0 ∧ e = 9)
theorem tellsR_of (xs : List (BitVec 8)) (r e : Int) (h : TellsR xs r e) (k : Nat) (hk : k ≤ xs.length) (h1 : ∀ j, j < k → xs.getD j 0 = 1) (h2 : k = xs.length ∨ xs.getD k 0 ≠ 1) :
    (∀ i, k ≤ i → i < xs.length → xs.getD i 0 ≠ 0 → r = 0 ∧ e = 9) ∧ ((∀ i, k ≤ i → i < xs.length → xs.getD i 0 = 0) → r = k ∧ e = 0) := by
  have hu : ∀ m, Ep.Tells xs m → m = k := fun m hm => by
    rcases Nat.lt_trichotomy m k with hl | he | hl
    · have h3 := hm.2.2 m (Nat.le_refl _) (by omega)
      rw [h1 m hl] at h3
      exact absurd h3 (by decide)
    · exact he
    · rcases h2 with h2 | h2
      · have := hm.1; omega
      · exact absurd (hm.2.1 k hl) h2
  constructor
  · intro i hi1 hi2 hi3
    rcases h with ⟨m, hm, _, _⟩ | ⟨_, hr, he⟩
    · obtain rfl := hu m hm
      exact absurd (hm.2.2 i hi1 hi2) hi3
    · exact ⟨hr, he⟩
  · intro hz
    rcases h with ⟨m, hm, hr, he⟩ | ⟨hn, _, _⟩
    · obtain rfl := hu m hm
      exact ⟨hr, he⟩
    · exact absurd ⟨hk, h1, hz⟩ (hn k)

set_option maxRecDepth 100000 in
theorem rtells_any (v : Value) (xs : List (BitVec 8)) (w : World) (hs : SlB w v xs) (hl : xs.length ≤ 1000000000) (r e : Int) (h : TellsR xs r e) :
    Calls Try.prog 45 #[v] w fun e' w' => e' = .returned (.tuple #[.int .i64 r, .int .i64 e]) ∧ w = w' := by
  obtain ⟨a, cap, rfl⟩ := hs.len
  have hb := hs.bounds.2
  have HS := Lib.hid hs
  have HT := Lib.hid (tellsR_of xs r e h)
  clear hs h
  go_enter Try.func45, Try.ntmps45
  go_wp2
  go_loop [4] (fun i => ∃ k : Nat, k ≤ xs.length ∧ i = .int .i64 k ∧ Hid (∀ j, j < k → xs.getD j 0 = 1)) (fun i => xs.length - (intOf i).toNat)
  case atStart => exact ⟨0, Nat.zero_le _, rfl, Lib.hid (fun j hj => absurd hj (by omega))⟩
  case round =>
    obtain ⟨k, hk, rfl, HK⟩ := hrel
    have hform : 0 < xs.length → ∃ b off, a = some ⟨b, off, none⟩ := fun hp => by
      obtain ⟨b, off, c, hv, _, _⟩ := HS.out.open_ xs.length rfl hp
      simp only [Value.slice.injEq] at hv
      exact ⟨b, off, hv.1⟩
    have HFORM := Lib.hid hform
    clear hform
    by_cases hc : k < xs.length ∧ xs.getD k 0 = 1
    · obtain ⟨hlt, hx⟩ := hc
      obtain ⟨b, off, rfl⟩ := HFORM.out (by omega)
      have c0 := HS.out.cell k hlt
      unfold byteV at c0
      have HP := Lib.hid (show ∀ j, j < k + 1 → xs.getD j 0 = 1 by
        intro j hj
        by_cases e : j = k
        · subst e; exact hx
        · exact HK.out j (by omega))
      rw [hx, show bv 1 = 1 from rfl] at c0
      clear hx
      go_wp2
      go_round
      case rel => exact ⟨k + 1, by omega, by go_num, HP⟩
      case measure => simp [intOf]; omega
    · have h2 : k = xs.length ∨ xs.getD k 0 ≠ 1 := by
        by_cases hlt : k < xs.length
        · exact .inr (fun hx => hc ⟨hlt, hx⟩)
        · exact .inl (by omega)
      have HTK := Lib.hid (HT.out k hk HK.out h2)
      clear HT HK
      have hx1 : k < xs.length → (bv (xs.getD k 0) == 1) = false := fun hlt => by rw [beq_eq_false_iff_ne]; exact fun hx => hc ⟨hlt, bv_inj hx⟩
      have HX1 := Lib.hid hx1
      clear hc h2 hx1
      go_upto_region 2 with fail
      go_cut [16] (fun s16 wx => s16 = .bool false ∧ wx = w)
      case first =>
        by_cases hlt : k < xs.length
        · obtain ⟨b, off, rfl⟩ := HFORM.out (by omega)
          have c0 := HS.out.cell k hlt
          unfold byteV at c0
          have hx1 := HX1.out hlt
          generalize xs.getD k 0 = x at c0 hx1
          go_wp2_with fail
          go_meet
          case rel => exact ⟨rfl, rfl⟩
        · go_wp2_with fail
          go_meet
          case rel => exact ⟨rfl, rfl⟩
      case rest =>
        obtain ⟨rfl, rfl⟩ := hcut
        clear HX1
        go_wp2_with fail
        go_loop [5] (fun s => ∃ i : Nat, k ≤ i ∧ i ≤ xs.length ∧ s = .int .i64 i ∧ Hid (∀ j, k ≤ j → j < i → xs.getD j 0 = 0)) (fun s => xs.length - (intOf s).toNat)
        case atStart => exact ⟨k, Nat.le_refl _, hk, rfl, Lib.hid (fun j h1 h2 => absurd h1 (by omega))⟩
        case round =>
          obtain ⟨i, hki, hi, rfl, HZ⟩ := hrel
          by_cases hlt : i < xs.length
          · obtain ⟨b, off, rfl⟩ := HFORM.out (by omega)
            have c0 := HS.out.cell i hlt
            unfold byteV at c0
            by_cases hx : xs.getD i 0 = 0
            · have HP := Lib.hid (show ∀ j, k ≤ j → j < i + 1 → xs.getD j 0 = 0 by
                intro j h1 h2
                by_cases e : j = i
                · subst e; exact hx
                · exact HZ.out j h1 (by omega))
              rw [hx, show bv 0 = 0 from rfl] at c0
              clear hx
              go_wp2
              go_round
              case rel => exact ⟨i + 1, by omega, by omega, by go_num, HP⟩
              case measure => simp [intOf]; omega
            · have hx1 : (bv (xs.getD i 0) != 0) = true := by rw [bne_iff_ne]; exact fun hc => hx (bv_inj hc)
              have HE := Lib.hid (HTK.out.1 i hki hlt hx)
              clear hx HTK
              generalize xs.getD i 0 = x at c0 hx1
              go_wp2
              go_ret2
              exact ⟨by rw [HE.out.1, HE.out.2]; rfl, rfl⟩
          · have HE := Lib.hid (HTK.out.2 (fun j h1 h2 => HZ.out j h1 (by omega)))
            clear HTK HZ
            obtain rfl : i = xs.length := by omega
            go_wp2
            go_ret2
            exact ⟨by rw [HE.out.1, HE.out.2]; rfl, rfl⟩

/-- So many bytes 1 at the front of so many bytes. -/
def frontL (n all : Nat) : List (BitVec 8) := (List.range all).map fun j => if j < n then 1 else 0
theorem frontL_length (n all : Nat) : (frontL n all).length = all := by simp [frontL]
theorem frontL_succ (n k : Nat) : frontL n (k + 1) = frontL n k ++ [if k < n then 1 else 0] := by simp [frontL, List.range_succ]
theorem frontL_getD (n all j : Nat) (h : j < all) : (frontL n all).getD j 0 = if j < n then 1 else 0 := by simp [frontL, List.getD, h]

set_option maxRecDepth 100000 in
theorem rfront_any (n all : Nat) (w : World) (hn : n ≤ 1000000) (hl : all ≤ 1000000) : Calls Try.prog 46 #[.int .i64 (n : Int), .int .i64 (all : Int)] w (RetB w (frontL n all)) := by
  go_enter Try.func46, Try.ntmps46
  go_wp2
  go_loopw [5, 6] (fun s i wr => ∃ k : Nat, k ≤ all ∧ i = .int .i64 k ∧ Hid (OwnB 5 w.heap.size wr s (frontL n k)) ∧ Hid (Below w.heap.size w wr)) (fun _ i _ => all - (intOf i).toNat)
  case atStart => exact ⟨0, by omega, rfl, Lib.hid (OwnB.nil _ _ _), Lib.hid (Below.refl _ _)⟩
  case round =>
    obtain ⟨k, hk, rfl, HO, HB⟩ := hrel
    by_cases hlt : k < all
    · obtain ⟨a', cap', rfl⟩ := HO.out.sl.len
      have HFL := Lib.hid (frontL_length n k)
      rw [HFL.out] at HO
      have HS := Lib.hid (frontL_succ n k)
      have hsz := HB.out.size
      rw [HFL.out]
      generalize frontL n k = ys at *
      by_cases hkn : k < n
      · have hS := HS.out
        rw [if_pos hkn] at hS
        have HS := Lib.hid hS
        clear hS
        go_wp2_with (at_builtin; refine wpList_append_b rfl (.tmp 15) (.tmp 16) 22 5 rfl Try.underlying22 info_u8 w.heap.size (.slice a' k cap') _ (HO.out.alloc _) rfl (.slice (some ⟨wr.heap.size, 0, none⟩) 1 1) [1] (one_new _ _ _ rfl) rfl (by rw [HFL.out]; simp; omega) (by simp; omega) ?_; intro v2 w2 ho hg hn'; have HB2 := Lib.hid ((HB.out.alloc hsz _).grown hg (by simp; omega) (fun k hk => (World.ownsRow.lt HO.out k hk).1)); have HO2 := Lib.hid ho; clear ho hg hn')
        go_roundw
        case rel => exact ⟨k + 1, by omega, by go_num, by rw [HS.out]; exact HO2, HB2⟩
        case measure => simp [intOf]; omega
      · have hS := HS.out
        rw [if_neg hkn] at hS
        have HS := Lib.hid hS
        clear hS
        go_wp2_with (at_builtin; refine wpList_append_b rfl (.tmp 18) (.tmp 19) 22 5 rfl Try.underlying22 info_u8 w.heap.size (.slice a' k cap') _ (HO.out.alloc _) rfl (.slice (some ⟨wr.heap.size, 0, none⟩) 1 1) [0] (one_new _ _ _ rfl) rfl (by rw [HFL.out]; simp; omega) (by simp; omega) ?_; intro v2 w2 ho hg hn'; have HB2 := Lib.hid ((HB.out.alloc hsz _).grown hg (by simp; omega) (fun k hk => (World.ownsRow.lt HO.out k hk).1)); have HO2 := Lib.hid ho; clear ho hg hn')
        go_roundw
        case rel => exact ⟨k + 1, by omega, by go_num, by rw [HS.out]; exact HO2, HB2⟩
        case measure => simp [intOf]; omega
    · obtain rfl : k = all := by omega
      go_wp2
      go_ret
      exact ⟨_, rfl, HO.out, HB.out⟩
end Go.Proofs.Ytdnjjemdnlegdaa
