/-
  The disk's call Write.
-/
import Derived.Test.YtdnjjemdnlegdaaDk4
import Derived.IntWalk
namespace Go.Proofs.Ytdnjjemdnlegdaa
set_option linter.unusedVariables false
set_option linter.unusedSimpArgs false
open Go Go.RowKit

theorem wr_i64 {n : Int} (h0 : -9223372036854775808 ≤ n) (h1 : n ≤ 9223372036854775807) : IntKind.i64.wrap n = n := by rw [IntKind.wrap_i64]; omega

/-- The loop's body at number k: the disk behind it. -/
theorem run_next (at_ : Nat) (xs : List (BitVec 8)) (n k : Nat) (d : Dk.D) (hk : k < n) (hl : ¬ d.left = 0) : Dk.run at_ xs (n - k) k d = Dk.run at_ xs (n - (k + 1)) (k + 1) (Dk.wstep d at_ xs k) := by
  rw [show n - k = (n - (k + 1)) + 1 by omega, Dk.run, if_neg hl]
theorem run_torn (at_ : Nat) (xs : List (BitVec 8)) (n k : Nat) (d : Dk.D) (hk : k < n) (hl : d.left = 0) : Dk.run at_ xs (n - k) k d = (Dk.tear d at_ xs k, 12) := by
  rw [show n - k = (n - (k + 1)) + 1 by omega, Dk.run, if_pos hl]

theorem torn_at {w : World} {p g : Nat} {d : Dk.D} (h : DiskAt w p g d) (k o l cc b o2 l2 c2 : Nat) (ys : List (BitVec 8)) (ho : o = 128 * k) (hl : l = 128) (hl2 : l2 = 128) (hk : 128 * k + 128 ≤ d.b.length) (hcap : 128 ≤ cc)
    (hs : SlB w (.slice (some ⟨b, o2, none⟩) 128 c2) ys) (hy : ys.length = 128) (hg : b ≠ g) (hp : b ≠ p) :
    Calls Try.prog 50 #[.pointer (some ⟨p, 0, none⟩), .slice (some ⟨g, o, none⟩) l cc, .slice (some ⟨b, o2, none⟩) l2 c2] w fun e w' =>
      e = .returned (.tuple #[]) ∧ DiskAt w' p g { d with b := splice d.b (128 * k) (Dk.tornL d.mask (Dk.sect d.b k) ys), off := true, left := -1 } ∧ Kept [p, g] w w' := by
  subst ho hl hl2
  exact dk_torn h k cc _ ys hk hcap hs hy (by simpa [Value.ownBlock] using hg) (by simpa [Value.ownBlock] using hp)

section
variable {P : Program}
/-- copy into a disk's bytes. -/
theorem wpList_copy_dk {ops : Array Oper} {rest : List Oper} {o : Oper} {a : Act} {w : World} {Q : Exit → Act → World → Prop} (hgd : o.guard = none) (x s : Operand) (T E : TypeId)
    (ho : o.op = .call { callee := .builtin .copy, args := #[x, s], argTypes := #[T, T] }) (hu : P.underlying T = some (.slice E)) (hsz : (P.info? E).map (·.size) = some 1)
    (p g off dLen dCap : Nat) (d : Dk.D) (hD : DiskAt w p g d) (u : Value) (ys : List (BitVec 8)) (hsl : SlB w u ys) (hfit : off + dLen ≤ d.b.length) (hd : a.eval x = .slice (some ⟨g, off, none⟩) dLen dCap) (hs : a.eval s = u)
    (h : ∀ w', DiskAt w' p g { d with b := splice d.b off (ys.take dLen) } → Kept [p, g] w w' → wpList P ops Q rest (a.put o.dst (goInt (Nat.min ys.length dLen))) w') : wpList P ops Q (o :: rest) a w :=
  wpList_copy_b hgd x s T E ho hu hsz g off dLen dCap u ys hd hs hsl d.b d.rest 5 hD.data hfit
    (h _ (hD.setData _ (Dk.splice_length _ _ _ (by rw [List.length_take]; omega))) ((Kept.refl _ _).setRow (by simp) _))
end
theorem max_sub (x : Int) : max (x - 1) (-1) = if x - 1 < -1 then -1 else x - 1 := by omega

set_option maxRecDepth 100000 in
set_option maxHeartbeats 2000000 in
theorem dk_write_ok {w : World} {p g : Nat} {d : Dk.D} (h : DiskAt w p g d) (a n b off cap : Nat) (xs : List (BitVec 8)) (hs : SlB w (.slice (some ⟨b, off, none⟩) xs.length cap) xs) (hx : xs.length = n * 128) (hn : 1 ≤ n)
    (hap : b ≠ g ∧ b ≠ p) (ha : (a + n) * 128 ≤ d.b.length) (hm : Dk.may d (a : Int) (n : Int) = 0) :
    Calls Try.prog 19 #[.pointer (some ⟨p, 0, none⟩), .int .i64 (a : Int), .slice (some ⟨b, off, none⟩) (n * 128) cap] w fun e w' =>
      e = .returned (.int .i64 (Dk.run a xs n 0 d).2) ∧ DiskAt w' p g (Dk.run a xs n 0 d).1 ∧ Kept [p, g] w w' := by
  have hp := h.pos
  have HC := Lib.hid (dk_is h)
  have HM := dk_may h (a : Int) (n : Int) (by omega) (by omega) (by omega)
  rw [hm] at HM
  have HM := Lib.hid HM
  have HX := Lib.hid hx
  rw [hx] at hs
  have HS := Lib.hid hs
  have hcap := hs.bounds.2.1
  obtain ⟨R, hR⟩ : ∃ R, R = Dk.run a xs n 0 d := ⟨_, rfl⟩
  rw [← hR]
  have HR := Lib.hid hR.symm
  have HD := Lib.hid h
  have hbl : ∃ m, d.b.length = m ∧ (a + n) * 128 ≤ m ∧ m ≤ 2097152 := ⟨_, rfl, ha, hp.2⟩
  obtain ⟨m, hbl, hm1, hm2⟩ := hbl
  have HBL := Lib.hid hbl
  clear hbl hs hx hR h ha hm hp
  have z1 : ((n : Int) * 128) % 128 = 0 := by omega
  have z2 : ((n : Int) * 128) / 128 = n := by omega
  go_enter Try.func19, Try.ntmps19
  go_wp2_with (first | (go_at_call 47; refine HC.out.mono ?_; rintro e w' ⟨rfl, rfl⟩) | (go_at_call 49; refine HM.out.mono ?_; rintro e w' ⟨rfl, rfl⟩))
  go_loopw [30] (fun i wr => ∃ (k : Nat) (d' : Dk.D), k ≤ n ∧ i = .int .i64 k ∧ Hid (DiskAt wr p g d') ∧ Hid (Dk.run a xs (n - k) k d' = R) ∧ Hid (d'.b.length = m) ∧ Hid (Kept [p, g] w wr)) (fun i _ => n - (intOf i).toNat)
  case atStart => exact ⟨0, d, by omega, rfl, HD, HR, HBL, Lib.hid (Kept.refl _ _)⟩
  case round =>
    clear HD HR HBL HC HM
    obtain ⟨k, d', hk, rfl, HD, HR, HBL, HK⟩ := hrel
    by_cases hlt : k < n
    · have c0 := HD.out.c0
      have hcp := HD.out.caps
      rw [HBL.out] at c0 hcp
      have c2 := HD.out.c2
      have c19 := HD.out.c19
      have f2 := HD.out.fr 2
      have f19 := HD.out.fr 19
      obtain ⟨c, hc⟩ : ∃ c, d'.cap = c := ⟨_, rfl⟩
      rw [hc] at c0 hcp
      clear hc
      have q1 : IntKind.i64.wrap ((a : Int) + k) = a + k := wr_i64 (by omega) (by omega)
      have q2 : IntKind.i64.wrap (((a : Int) + k) * 128) = (a + k) * 128 := wr_i64 (by omega) (by omega)
      have q3 : IntKind.i64.wrap ((a : Int) + k + 1) = a + k + 1 := wr_i64 (by omega) (by omega)
      have q4 : IntKind.i64.wrap (((a : Int) + k + 1) * 128) = (a + k + 1) * 128 := wr_i64 (by omega) (by omega)
      have q5 : IntKind.i64.wrap ((k : Int) * 128) = k * 128 := wr_i64 (by omega) (by omega)
      have q6 : IntKind.i64.wrap ((k : Int) + 1) = k + 1 := wr_i64 (by omega) (by omega)
      have q7 : IntKind.i64.wrap (((k : Int) + 1) * 128) = (k + 1) * 128 := wr_i64 (by omega) (by omega)
      have hseg := ((HS.out.kept HK.out (by simp; omega)).drop (k * 128) (by omega)).take 128 (by omega)
      rw [show List.take 128 (List.drop (k * 128) xs) = Dk.sect xs k by rw [Nat.mul_comm]; rfl] at hseg
      have HSEG := Lib.hid hseg
      have HLEN := Lib.hid (Dk.sect_length xs k n HX.out hlt)
      have hseg2 : SlB wr (.slice (some ⟨b, off + k * 128, none⟩) ((k + 1) * 128 - k * 128) (cap - k * 128)) (Dk.sect xs k) := by rw [show (k + 1) * 128 - k * 128 = 128 by omega]; exact hseg
      have HSEG2 := Lib.hid hseg2
      have HFIT := Lib.hid (show (a + k) * 128 + ((a + k + 1) * 128 - (a + k) * 128) ≤ d'.b.length by rw [HBL.out]; omega)
      clear hseg hseg2
      by_cases hl : d'.left = 0
      · rw [hl] at c2
        have HT := Lib.hid ((run_torn a xs n k d' hlt hl).symm.trans HR.out)
        clear hl
        go_wp2
        go_quiet (fail)
        go_wp2_with (go_at_call 50; refine (torn_at ((HD.out.drewN _).setWrites _) (a + k) _ _ _ _ _ _ _ (Dk.sect xs k) (by omega) (by omega) (by omega) (by show _ ≤ d'.b.length; rw [HBL.out]; omega) (by omega) ((SlB.drewN HSEG.out _).setCell hap.2 _) HLEN.out hap.1 hap.2).mono ?_; rintro e w2 ⟨rfl, hD2, hK2⟩)
        go_ret
        rw [← HT.out]
        rw [← IntWalk.i64_left] at hD2
        exact ⟨rfl, hD2, (((HK.out.drewN _).setCell (by simp) _).trans hK2)⟩
      · have hl' : (d'.left == 0) = false := by simpa using hl
        have HN := Lib.hid ((run_next a xs n k d' hlt hl).symm.trans HR.out)
        have hl0 := HD.out.ok.left0
        have hl1 := HD.out.ok.left1
        clear hl
        go_wp2
        go_quiet (fail)
        go_wp2_with (refine wpList_copy_dk rfl (.tmp 70) (.tmp 71) 22 5 rfl Try.underlying22 (by kernel_rfl) p g ((a + k) * 128) ((a + k + 1) * 128 - (a + k) * 128) (c - (a + k) * 128) { d' with writes := wrap64 (d'.writes + 1) } ((HD.out.drewN _).setWrites _) (.slice (some ⟨b, off + k * 128, none⟩) ((k + 1) * 128 - k * 128) (cap - k * 128)) (Dk.sect xs k) ((SlB.drewN HSEG2.out _).setCell hap.2 _) HFIT.out rfl rfl ?_; intro w2 hD2 hK2; have c2' := hD2.c2; have f2' := hD2.fr 2; have HD2 := Lib.hid hD2; have HK2 := Lib.hid hK2; clear hD2 hK2)
        refine ⟨⟨k + 1, Dk.wstep d' a xs k, by omega, by go_num, ?_, HN, ?_, ?_⟩, by simp [intOf]; omega⟩
        · refine Lib.hid ?_
          have h3 := HD2.out.setLeft (max (d'.left - 1) (-1)) (by omega) (by omega)
          rw [← max_sub]
          simp only [show (a + k + 1) * 128 - (a + k) * 128 = 128 by omega] at h3
          simp only [List.take_of_length_le (show (Dk.sect xs k).length ≤ 128 by rw [HLEN.out]; omega), show (a + k) * 128 = 128 * (a + k) by omega] at h3
          rw [← IntWalk.i64_left] at h3
          exact h3
        · refine Lib.hid ?_
          rw [Dk.wstep_len a xs k n HX.out hlt (by rw [HBL.out]; exact hm1)]
          exact HBL.out
        · exact Lib.hid (((HK.out.drewN _).setCell (by simp) _).trans (HK2.out.setCell (by simp) _))
    · obtain rfl : k = n := by omega
      have hR : R = (d', 0) := by rw [← HR.out, Nat.sub_self]; rfl
      clear HR
      subst hR
      go_wp2
      go_ret
      exact ⟨rfl, HD.out, HK.out⟩

/-- Sectors are written. -/
theorem dk_write {w : World} {p g : Nat} {d : Dk.D} (h : DiskAt w p g d) (at_ : Int) (v : Value) (xs : List (BitVec 8)) (hs : SlB w v xs) (hl : xs.length ≤ 1000000000) (hap : Apart v xs [g, p]) (ha0 : -9223372036854775808 ≤ at_) (ha1 : at_ ≤ 9223372036854775807) :
    Calls Try.prog 19 #[.pointer (some ⟨p, 0, none⟩), .int .i64 at_, v] w fun e w' => e = .returned (.int .i64 (Dk.write d at_ xs).2) ∧ DiskAt w' p g (Dk.write d at_ xs).1 ∧ Kept [p, g] w w' := by
  have HC := Lib.hid (dk_is h)
  have HM := dk_may h at_ ((xs.length / 128 : Nat) : Int) ha1 (by omega) (by omega)
  have HD := Lib.hid h
  by_cases hmod : xs.length % 128 ≠ 0
  · have hw : Dk.write d at_ xs = (d, 2) := by unfold Dk.write; rw [if_pos hmod]
    rw [hw]
    obtain ⟨a, cap, rfl⟩ := hs.len
    clear hs hap HM hw h
    generalize xs.length = k at *
    have hk : ((k : Int) % 128 != 0) = true := by rw [bne_iff_ne]; omega
    clear hmod
    go_enter Try.func19, Try.ntmps19
    go_wp2_with (go_at_call 47; refine HC.out.mono ?_; rintro e w' ⟨rfl, rfl⟩)
    go_ret
    exact ⟨rfl, HD.out, Kept.refl _ _⟩
  · obtain ⟨n, hn⟩ : ∃ n, xs.length / 128 = n := ⟨_, rfl⟩
    have hx : xs.length = n * 128 := by omega
    rw [hn] at HM
    have hk : ((((n * 128 : Nat) : Int)) % 128 != 0) = false := by rw [bne_eq_false_iff_eq]; omega
    by_cases hm : Dk.may d at_ (n : Int) = 0
    · have hw : Dk.write d at_ xs = Dk.run at_.toNat xs n 0 d := by unfold Dk.write; rw [if_neg hmod, hn, if_neg (by omega)]
      rw [hw]
      have h2 := (Dk.may_zero d at_ n).1 hm
      obtain ⟨a, rfl⟩ := Int.eq_ofNat_of_zero_le h2.1.1
      rw [Int.toNat_natCast]
      by_cases hn0 : n = 0
      · subst hn0
        obtain ⟨c, cap, rfl⟩ := hs.len
        rw [show Dk.run a xs 0 0 d = (d, 0) from rfl, hx]
        rw [hm] at HM
        have HM := Lib.hid HM
        clear hs hap hw h h2 hm hx hn hmod hk
        go_enter Try.func19, Try.ntmps19
        go_wp2_with (first | (go_at_call 47; refine HC.out.mono ?_; rintro e w' ⟨rfl, rfl⟩) | (go_at_call 49; refine HM.out.mono ?_; rintro e w' ⟨rfl, rfl⟩))
        go_loopw [30] (fun i wr => i = .int .i64 0 ∧ wr = w) (fun _ _ => 0)
        case atStart => exact ⟨rfl, rfl⟩
        case round =>
          obtain ⟨rfl, rfl⟩ := hrel
          go_wp2
          go_ret
          exact ⟨rfl, HD.out, Kept.refl _ _⟩
      · obtain ⟨b, off, cap, rfl, hcap, hb⟩ := hs.open_ (n * 128) hx (by omega)
        have hne : xs ≠ [] := by rintro rfl; simp at hx; omega
        have hapb := hap hne b rfl
        simp only [List.mem_cons, List.not_mem_nil, or_false, not_or] at hapb
        rw [← hx] at hs
        exact dk_write_ok h a n b off cap xs hs hx (by omega) hapb (by omega) hm
    · have hw : Dk.write d at_ xs = (d, Dk.may d at_ n) := by unfold Dk.write; rw [if_neg hmod, hn, if_pos hm]
      rw [hw]
      obtain ⟨a, cap, rfl⟩ := hs.len
      rw [hx]
      have hm' : (Dk.may d at_ (n : Int) == 0) = false := by simpa using hm
      have hm2 : (Dk.may d at_ (n : Int) != 0) = true := by simpa using hm
      generalize Dk.may d at_ (n : Int) = r at *
      have HM := Lib.hid HM
      have z2 : ((n : Int) * 128) / 128 = n := by omega
      have z1 : ((n : Int) * 128) % 128 = 0 := by omega
      have hnb : n * 128 ≤ 1000000000 := by omega
      clear hs hap hw h hm hx hn hmod hk hl
      go_enter Try.func19, Try.ntmps19
      go_wp2_with (first | (go_at_call 47; refine HC.out.mono ?_; rintro e w' ⟨rfl, rfl⟩) | (go_at_call 49; refine HM.out.mono ?_; rintro e w' ⟨rfl, rfl⟩))
      go_ret
      exact ⟨rfl, HD.out, Kept.refl _ _⟩
end Go.Proofs.Ytdnjjemdnlegdaa
