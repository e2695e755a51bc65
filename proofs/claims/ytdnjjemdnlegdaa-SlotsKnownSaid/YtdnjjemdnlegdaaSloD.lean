/-
  A log in memory: Append refused.
-/
import Derived.Test.YtdnjjemdnlegdaaSloC
import Derived.Test.YtdnjjemdnlegdaaSloZ
namespace Go.Proofs.Ytdnjjemdnlegdaa
set_option linter.unusedVariables false
set_option linter.unusedSimpArgs false
open Go Go.RowKit
section
variable {w : World} {q p g : Nat} {vt : Value} {vs : List Value} {l : Slo.L} {d : Dk.D}

theorem slo_append_off (h : LogAt w q p g vt vs l) (hD : DiskAt w p g d) (v : Value) (ho : (l.dead || d.off) = true) :
    Calls Try.prog 30 #[.pointer (some ⟨q, 0, none⟩), v] w fun e w' => e = .returned (.int .i64 12) ∧ w = w' := by
  have c0 := h.c0
  have c5 := h.c5
  have HI := Lib.hid (slo_is h)
  have HO := Lib.hid (dk_off hD)
  generalize l.dead = D at c5 ho
  generalize d.off = O at HO ho
  clear h hD
  cases D
  · obtain rfl : O = true := by simpa using ho
    clear ho
    go_enter Try.func30, Try.ntmps30
    go_wp2_with (first
      | (go_at_call 51; refine HI.out.mono ?_; rintro e w' ⟨rfl, rfl⟩)
      | (go_at_call 20; refine HO.out.mono ?_; rintro e w' ⟨rfl, rfl⟩))
    go_ret
    exact ⟨rfl, rfl⟩
  · clear ho
    go_enter Try.func30, Try.ntmps30
    go_wp2_with (go_at_call 51; refine HI.out.mono ?_; rintro e w' ⟨rfl, rfl⟩)
    go_ret
    exact ⟨rfl, rfl⟩
theorem slo_append_long (h : LogAt w q p g vt vs l) (hD : DiskAt w p g d) (a : Option Addr) (n cap : Nat) (hd : l.dead = false) (ho : d.off = false) (hn : 262144 < n) :
    Calls Try.prog 30 #[.pointer (some ⟨q, 0, none⟩), .slice a n cap] w fun e w' => e = .returned (.int .i64 3) ∧ w = w' := by
  have c0 := h.c0
  have c5 := h.c5
  have HI := Lib.hid (slo_is h)
  have HO := Lib.hid (dk_off hD)
  rw [hd] at c5
  rw [ho] at HO
  have h1 : (262144 : Int) < n := by omega
  clear h hD hd ho hn
  go_enter Try.func30, Try.ntmps30
  go_wp2_with (first
    | (go_at_call 51; refine HI.out.mono ?_; rintro e w' ⟨rfl, rfl⟩)
    | (go_at_call 20; refine HO.out.mono ?_; rintro e w' ⟨rfl, rfl⟩))
  go_ret
  exact ⟨rfl, rfl⟩
set_option maxRecDepth 100000 in
set_option maxHeartbeats 1000000 in
theorem slo_append_full (h : LogAt w q p g vt vs l) (hD : DiskAt w p g d) (a : Option Addr) (n cap : Nat) (hd : l.dead = false) (ho : d.off = false) (hn : n ≤ 262144) (hf : l.sectors - l.used < Slo.taken n) :
    Calls Try.prog 30 #[.pointer (some ⟨q, 0, none⟩), .slice a n cap] w fun e w' => e = .returned (.int .i64 7) ∧ ∃ m, w' = w.drewN m := by
  have c0 := h.c0
  have c2 := h.c2
  have c4 := h.c4
  have c5 := h.c5
  have hs := h.small
  have HI := Lib.hid (slo_is h)
  have HO := Lib.hid (dk_off hD)
  have HTK := Lib.hid (fun w => (taken_any n (by omega) w).mono (fun e w' (h : _ ∧ w = w') => And.intro h.1 h.2.symm))
  rw [hd] at c5
  rw [ho] at HO
  generalize Slo.taken n = tk at HTK hf
  generalize l.sectors = S at c2 hf hs
  generalize l.used = U at c4 hf hs
  have q1 : IntKind.i64.wrap ((S : Int) - U) = S - U := by rw [IntKind.wrap_i64]; omega
  have h1 : (n : Int) ≤ 262144 := by omega
  have h2 : (S : Int) - U < tk := by omega
  clear h hD hd ho hn hs hf
  go_enter Try.func30, Try.ntmps30
  go_wp2_with (first
    | (go_at_call 51; refine HI.out.mono ?_; rintro e w' ⟨rfl, rfl⟩)
    | (go_at_call 20; refine HO.out.mono ?_; rintro e w' ⟨rfl, rfl⟩))
  go_quiet ((go_at_call 52; with_reducible exact Calls.quiet_of_same (HTK.out _)))
  go_wp2
  go_ret
  exact ⟨rfl, _, rfl⟩
end
end Go.Proofs.Ytdnjjemdnlegdaa
