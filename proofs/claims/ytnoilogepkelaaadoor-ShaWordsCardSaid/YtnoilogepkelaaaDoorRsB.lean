/-
  The document's sha: within for cube roots; Root.
-/
import Derived.Test.YtnoilogepkelaaaDoorRsA
namespace Go.Proofs.YtnoilogepkelaaaDoor
set_option linter.unusedVariables false
set_option linter.unusedSimpArgs false
open Go Go.RowKit

set_option maxHeartbeats 1000000 in
theorem within3_any (x p : Nat) (hx : x < 137438953472) (hp : p ≤ 400) (w : World) :
    Calls Tryd.prog 91 #[.int .u64 x, .int .u64 p, .int .i64 3] w fun e w' => e = .returned (.bool (Rsh.within3 x p)) ∧ w' = w := by
  have HM := Lib.hid (mul64_any x x (by omega) (by omega) w)
  have HN := Lib.hid (mul64_any (x * x % 18446744073709551616) x (by omega) (by omega) w)
  have HW := Lib.hid (show Rsh.within3 x p = (decide (Rsh.more3 x < 4294967296 * p) || (decide (Rsh.more3 x = 4294967296 * p) && decide (x * x % 18446744073709551616 * x % 18446744073709551616 = 0))) from rfl)
  have hmo : Rsh.more3 x = x * x % 18446744073709551616 * x / 18446744073709551616 + x * x / 18446744073709551616 * x := rfl
  have hxx : x * x ≤ 137438953472 * 137438953472 := Nat.mul_le_mul (by omega) (by omega)
  have hhib : x * x / 18446744073709551616 ≤ 1024 := by omega
  have hqb : x * x / 18446744073709551616 * x ≤ 1024 * 137438953472 := Nat.mul_le_mul hhib (by omega)
  have hlx : x * x % 18446744073709551616 * x ≤ 18446744073709551616 * 137438953472 := Nat.mul_le_mul (by omega) (by omega)
  have hmb : x * x % 18446744073709551616 * x / 18446744073709551616 ≤ 137438953472 := by omega
  clear hxx hhib hlx
  obtain ⟨hi, hhi⟩ : ∃ h, x * x / 18446744073709551616 = h := ⟨_, rfl⟩
  obtain ⟨lo, hlo⟩ : ∃ h, x * x % 18446744073709551616 = h := ⟨_, rfl⟩
  rw [hhi, hlo] at HM
  rw [hlo] at HN HW hmo hmb
  rw [hhi] at hmo hqb
  obtain ⟨m, hm⟩ : ∃ h, lo * x / 18446744073709551616 = h := ⟨_, rfl⟩
  obtain ⟨ls, hls⟩ : ∃ h, lo * x % 18446744073709551616 = h := ⟨_, rfl⟩
  obtain ⟨q, hq⟩ : ∃ h, hi * x = h := ⟨_, rfl⟩
  obtain ⟨R, hR⟩ : ∃ h, 4294967296 * p = h := ⟨_, rfl⟩
  obtain ⟨M, hM⟩ : ∃ h, m + q = h := ⟨_, rfl⟩
  rw [hm, hls] at HN
  rw [hls, hR] at HW
  rw [hm] at hmb
  rw [hm, hq, hM] at hmo
  rw [hq] at hqb
  rw [hmo] at HW
  have e1 : (hi : Int) * (x : Int) = (q : Int) := by rw [← hq]; simp
  have w1 : IntKind.u64.wrap ((hi : Int) * (x : Int)) = (q : Int) := by rw [e1, wrap_u64_mod]; omega
  have v1 : (hi : Int) * (x : Int) % 18446744073709551616 = (q : Int) := by rw [e1]; omega
  have e2 : (m : Int) + (q : Int) = (M : Int) := by omega
  have w2 : IntKind.u64.wrap ((m : Int) + (q : Int)) = (M : Int) := by rw [e2, wrap_u64_mod]; omega
  have v2 : ((m : Int) + (q : Int)) % 18446744073709551616 = (M : Int) := by rw [e2]; omega
  have e3 : 4294967296 * (p : Int) = (R : Int) := by omega
  have w3 : IntKind.u64.wrap (4294967296 * (p : Int)) = (R : Int) := by rw [e3, wrap_u64_mod]; omega
  have v3 : 4294967296 * (p : Int) % 18446744073709551616 = (R : Int) := by rw [e3]; omega
  clear hhi hlo hm hls hq hR hM hmo hmb hqb hx hp e1 e2 e3
  generalize Rsh.within3 x p = r at *
  have c0 : M < R ∨ (M = R ∧ ls = 0) ∨ (M = R ∧ ls ≠ 0) ∨ R < M := by omega
  rcases c0 with h1 | ⟨h1, h2⟩ | ⟨h1, h2⟩ | h1
  · obtain rfl : r = true := by rw [HW.out]; simp [h1]
    have h1' : (M : Int) < (R : Int) := by omega
    clear h1
    go_enter Tryd.func91, Tryd.ntmps91
    go_wp2_with (first
      | (go_at_call 98; (with_reducible refine Calls.mono HM.out ?_); rintro e w' ⟨rfl, rfl⟩)
      | (go_at_call 98; (with_reducible refine Calls.mono HN.out ?_); rintro e w' ⟨rfl, rfl⟩))
    all_goals
      go_ret
      exact ⟨rfl, rfl⟩
  · obtain rfl : r = true := by rw [HW.out]; simp [h1, h2]
    subst h1 h2
    go_enter Tryd.func91, Tryd.ntmps91
    go_wp2_with (first
      | (go_at_call 98; (with_reducible refine Calls.mono HM.out ?_); rintro e w' ⟨rfl, rfl⟩)
      | (go_at_call 98; (with_reducible refine Calls.mono HN.out ?_); rintro e w' ⟨rfl, rfl⟩))
    all_goals
      go_ret
      exact ⟨rfl, rfl⟩
  · obtain rfl : r = false := by rw [HW.out]; simp [h1, h2]
    subst h1
    have h3n : decide (ls = 0) = false := by simp; exact h2
    have h3' : ((ls : Int) == 0) = false := by simp; omega
    have h3'' : ¬ (ls : Int) = 0 := by omega
    go_enter Tryd.func91, Tryd.ntmps91
    go_wp2_with (first
      | (go_at_call 98; (with_reducible refine Calls.mono HM.out ?_); rintro e w' ⟨rfl, rfl⟩)
      | (go_at_call 98; (with_reducible refine Calls.mono HN.out ?_); rintro e w' ⟨rfl, rfl⟩))
    all_goals
      go_ret
      exact ⟨rfl, rfl⟩
  · obtain rfl : r = false := by rw [HW.out]; simp; omega
    have h1' : decide ((M : Int) < (R : Int)) = false := by simp; omega
    have h1n : decide (M < R) = false := by simp; omega
    have h2' : ((M : Int) == (R : Int)) = false := by simp; omega
    have h2'' : ¬ (M : Int) = (R : Int) := by omega
    go_enter Tryd.func91, Tryd.ntmps91
    go_wp2_with (first
      | (go_at_call 98; (with_reducible refine Calls.mono HM.out ?_); rintro e w' ⟨rfl, rfl⟩)
      | (go_at_call 98; (with_reducible refine Calls.mono HN.out ?_); rintro e w' ⟨rfl, rfl⟩))
    all_goals
      go_ret
      exact ⟨rfl, rfl⟩

/-- within, of roots of two or three. -/
theorem within_any (x p many : Nat) (mI : Int) (hmany : many = 2 ∧ mI = 2 ∨ many = 3 ∧ mI = 3) (hx : x < 137438953472) (hp : p ≤ 400) (w : World) :
    Calls Tryd.prog 91 #[.int .u64 x, .int .u64 p, .int .i64 mI] w fun e w' => e = .returned (.bool (Rsh.withinB x p many)) ∧ w' = w := by
  rcases hmany with ⟨rfl, rfl⟩ | ⟨rfl, rfl⟩
  · exact within2_any x p (by omega) hp w
  · exact within3_any x p hx hp w

set_option maxRecDepth 100000 in
set_option maxHeartbeats 1000000 in
theorem root_any (p many : Nat) (mI : Int) (hmany : many = 2 ∧ mI = 2 ∨ many = 3 ∧ mI = 3) (hp : p ≤ 400) (w : World) :
    Calls Tryd.prog 66 #[.int .u64 p, .int .i64 mI] w fun e w' => e = .returned (.int .u32 (wv (Rsh.root p many))) ∧ w' = w := by
  have HWI := Lib.hid (fun x (hx : x < 137438953472) W => within_any x p many mI hmany hx hp W)
  have HR := Lib.hid (show Rsh.root p many = BitVec.ofNat 32 (Rsh.rootN p many 38) from rfl)
  have HS := Lib.hid (fun n => (show Rsh.rootN p many (n + 1) = Rsh.step p many (Rsh.rootN p many n) (Rsh.bitN n) from rfl))
  have HBS := Lib.hid Rsh.bitN_succ
  have HLT := Lib.hid (fun n => Rsh.rootN_lt p many n)
  have HST := Lib.hid (fun x bit => (show Rsh.step p many x bit = if x + bit < Rsh.lim many ∧ Rsh.withinB (x + bit) p many = true then x + bit else x from rfl))
  have HLM := Lib.hid (show (many = 2 ∧ mI = 2 ∧ Rsh.lim many = 137438953472) ∨ (many = 3 ∧ mI = 3 ∧ Rsh.lim many = 68719476736) by
    rcases hmany with ⟨rfl, rfl⟩ | ⟨rfl, rfl⟩
    · exact .inl ⟨rfl, rfl, rfl⟩
    · exact .inr ⟨rfl, rfl, rfl⟩)
  have H0 := Lib.hid (show Rsh.rootN p many 0 = 0 ∧ Rsh.bitN 0 = 137438953472 from ⟨rfl, by decide⟩)
  clear hmany
  generalize Rsh.root p many = res at *
  go_enter Tryd.func66, Tryd.ntmps66
  go_wp2
  go_loopw [5, 6] (fun s5 s6 wr => ∃ n x bit : Nat, n ≤ 38 ∧ s5 = .int .u64 x ∧ s6 = .int .u64 bit ∧ Hid (Rsh.rootN p many n = x ∧ Rsh.bitN n = bit) ∧ wr = w) (fun _ s6 _ => (intOf s6).toNat)
  case atStart => exact ⟨0, 0, 137438953472, by omega, rfl, rfl, H0, rfl⟩
  case round =>
    obtain ⟨n, x, bit, hn, rfl, rfl, HX, rfl⟩ := hrel
    have hxl := HLT.out n
    rw [HX.out.1] at hxl
    by_cases hn38 : n = 38
    · subst hn38
      have hb0 : bit = 0 := by rw [← HX.out.2]; exact Rsh.bitN_end
      have hres : wv res = (x : Int) % 4294967296 := by
        rw [HR.out, HX.out.1]
        unfold wv
        rw [BitVec.toNat_ofNat]
        omega
      have HRES := Lib.hid hres
      have hb0i : (bit : Int) = 0 := by omega
      clear hres hxl hb0
      go_wp2
      go_ret
      exact ⟨by rw [HRES.out]; rfl, rfl⟩
    · have hbp : 0 < bit := by rw [← HX.out.2]; exact Rsh.bitN_pos n (by omega)
      have hbl : bit ≤ 137438953472 := by rw [← HX.out.2]; exact Rsh.bitN_le n
      have hbn := HBS.out n
      have hsn := HS.out n
      rw [HX.out.1, HX.out.2, HST.out] at hsn
      rw [HX.out.2] at hbn
      obtain ⟨y, hy⟩ : ∃ y, x + bit = y := ⟨_, rfl⟩
      rw [hy] at hsn
      obtain ⟨b2, hb2⟩ : ∃ b, bit / 2 = b := ⟨_, rfl⟩
      have hb2' : (bit : Int) / 2 = (b2 : Int) := by omega
      have hb2l : b2 < bit := by omega
      have e1 : (x : Int) + (bit : Int) = (y : Int) := by omega
      have w1 : IntKind.u64.wrap ((x : Int) + (bit : Int)) = (y : Int) := by
        rw [e1, wrap_u64_mod]
        rcases HLM.out with ⟨_, _, h⟩ | ⟨_, _, h⟩ <;> rw [h] at hxl <;> omega
      have v1 : ((x : Int) + (bit : Int)) % 18446744073709551616 = (y : Int) := by rw [← wrap_u64_mod]; exact w1
      have hbpi : (0 : Int) < (bit : Int) := by omega
      have HB2 := Lib.hid (show Rsh.bitN (n + 1) = b2 from hbn ▸ hb2)
      have hlm := HLM.out
      have HWY := Lib.hid (fun (h : y < 137438953472) W => HWI.out y h W)
      have HSN := Lib.hid hsn
      clear hbn hsn hy hb2 hbl hxl HBS HS HST HWI HR HLT H0
      rcases hlm with ⟨rfl, rfl, hL⟩ | ⟨rfl, rfl, hL⟩
      all_goals
        rw [hL] at HSN
        clear hL HLM
        generalize Rsh.withinB y p _ = r at HWY HSN
      · by_cases h1 : y < 137438953472
        · have hd : (y : Int) < 137438953472 := by omega
          have HWZ := Lib.hid (HWY.out h1)
          cases r with
          | true =>
            rw [if_pos ⟨h1, rfl⟩] at HSN
            clear h1 HWY
            go_wp2_with (go_at_call 91; refine (HWZ.out _).mono ?_; rintro e w' ⟨rfl, rfl⟩)
            exact ⟨⟨n + 1, y, b2, by omega, rfl, rfl, ⟨HSN.out, HB2.out⟩, trivial⟩, by simp [intOf]; omega⟩
          | false =>
            rw [if_neg (by simp)] at HSN
            clear h1 HWY
            go_wp2_with (go_at_call 91; refine (HWZ.out _).mono ?_; rintro e w' ⟨rfl, rfl⟩)
            exact ⟨⟨n + 1, x, b2, by omega, rfl, rfl, ⟨HSN.out, HB2.out⟩, trivial⟩, by simp [intOf]; omega⟩
        · have hd : ¬ (y : Int) < 137438953472 := by omega
          have hd' : decide ((y : Int) < 137438953472) = false := by simp; omega
          rw [if_neg (fun h => h1 h.1)] at HSN
          clear h1 HWY
          go_wp2
          exact ⟨⟨n + 1, x, b2, by omega, rfl, rfl, ⟨HSN.out, HB2.out⟩, trivial⟩, by simp [intOf]; omega⟩
      · by_cases h1 : y < 68719476736
        · have hd : (y : Int) < 68719476736 := by omega
          have HWZ := Lib.hid (HWY.out (by omega))
          cases r with
          | true =>
            rw [if_pos ⟨h1, rfl⟩] at HSN
            clear h1 HWY
            go_wp2_with (go_at_call 91; refine (HWZ.out _).mono ?_; rintro e w' ⟨rfl, rfl⟩)
            exact ⟨⟨n + 1, y, b2, by omega, rfl, rfl, ⟨HSN.out, HB2.out⟩, trivial⟩, by simp [intOf]; omega⟩
          | false =>
            rw [if_neg (by simp)] at HSN
            clear h1 HWY
            go_wp2_with (go_at_call 91; refine (HWZ.out _).mono ?_; rintro e w' ⟨rfl, rfl⟩)
            exact ⟨⟨n + 1, x, b2, by omega, rfl, rfl, ⟨HSN.out, HB2.out⟩, trivial⟩, by simp [intOf]; omega⟩
        · have hd : ¬ (y : Int) < 68719476736 := by omega
          have hd' : decide ((y : Int) < 68719476736) = false := by simp; omega
          rw [if_neg (fun h => h1 h.1)] at HSN
          clear h1 HWY
          go_wp2
          exact ⟨⟨n + 1, x, b2, by omega, rfl, rfl, ⟨HSN.out, HB2.out⟩, trivial⟩, by simp [intOf]; omega⟩
end Go.Proofs.YtnoilogepkelaaaDoor
