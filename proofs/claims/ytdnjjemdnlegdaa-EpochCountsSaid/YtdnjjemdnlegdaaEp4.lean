/-
  Package epoch over what a disk's sectors tell; layer 10's works.
-/
import Derived.Test.YtdnjjemdnlegdaaEp3
import Derived.Test.YtdnjjemdnlegdaaEpL
namespace Go.Proofs.Ytdnjjemdnlegdaa
set_option linter.unusedVariables false
set_option linter.unusedSimpArgs false
open Go Go.RowKit

theorem ep_open_at {w : World} {p g : Nat} {d : Dk.D} (hD : DiskAt w p g d) (fr n v : Nat) (hA : Ep.At d fr n v) (ho : d.off = false) (hn : 1 ≤ n) :
    Calls Try.prog 41 #[.pointer (some ⟨p, 0, none⟩), .int .i64 (fr : Int), .int .i64 (n : Int)] w fun e w' =>
      ∃ c, e = .returned (.tuple #[.pointer (some ⟨c, 0, none⟩), .int .i64 0]) ∧ w.heap.size ≤ c ∧ CtrAt w' c p (fr : Int) ((128 * n : Nat) : Int) (v : Int) ∧ Below w.heap.size w w' := by
  have hp := hD.pos
  have hf := hA.fit
  obtain ⟨h1, h2, h3⟩ := hA.tells ho
  refine (ep_open hD (fr : Int) (n : Int) (by omega) (by omega) (by omega)).mono ?_
  rintro e w' ⟨hb, h | h | h | h⟩
  · exact absurd h1 h.1
  · exact absurd h.2.1 (by omega)
  · exact absurd h2 (h.2.2.1 v)
  · obtain ⟨_, _, m, c, hm, he, hc, hC⟩ := h
    obtain rfl := hm.uniq h2
    rw [h3] at hC
    exact ⟨c, he, hc, hC, hb⟩

/-- What a step leaves. -/
def StepAt (w : World) (p g c fr n v : Nat) (d : Dk.D) (w' : World) (d' : Dk.D) : Prop :=
  Hid (DiskAt w' p g d') ∧ Hid (Ep.At d' fr n (v + 1)) ∧ Hid (d'.off = false) ∧ Hid (d'.left = max (d.left - 1) (-1)) ∧ Hid (d'.mask = d.mask) ∧ Hid (∀ j, j / 128 ≠ fr + v / 128 → d'.b.getD j 0 = d.b.getD j 0) ∧ Hid (d'.b.length = d.b.length) ∧
  Hid (CtrAt w' c p (fr : Int) ((128 * n : Nat) : Int) ((v + 1 : Nat) : Int)) ∧ Hid (Kept [p, g, c] w w')
theorem ep_next_at {w : World} {p g c : Nat} {d : Dk.D} (hD : DiskAt w p g d) (fr n v : Nat) (hA : Ep.At d fr n v) (ho : d.off = false) (hl : d.left ≠ 0) (hC : CtrAt w c p (fr : Int) ((128 * n : Nat) : Int) (v : Int)) (hv : v < 128 * n) (hcp : c ≠ p) (hcg : c ≠ g) :
    Calls Try.prog 42 #[.pointer (some ⟨c, 0, none⟩)] w fun e w' => e = .returned (.int .i64 0) ∧ ∃ d', StepAt w p g c fr n v d w' d' := by
  have hp := hD.pos
  have hf := hA.fit
  have hs := Ep.step_whole hA hv ho hD.ok.left0 hl
  have e : (fr : Int) + ((v / 128 : Nat) : Int) = ((fr + v / 128 : Nat) : Int) := by omega
  refine (ep_next hD (fr : Int) ((128 * n : Nat) : Int) v hC (by omega) hcp hcg (by omega) (by omega) (by omega)).mono ?_
  rintro e' w' ⟨rfl, h1, h2, h3⟩
  rw [e] at h1 h2 ⊢
  have hlen := (Dk.write_ok hD.ok ((fr + v / 128 : Nat) : Int) (Ep.sector v)).2
  obtain ⟨g1, g2, g3, g4, g5, g6⟩ := hs
  refine ⟨by rw [g1], _, Lib.hid h1, Lib.hid g2, Lib.hid g3, Lib.hid g4, Lib.hid g5, Lib.hid g6, Lib.hid hlen, Lib.hid ?_, Lib.hid h3⟩
  unfold CtrR at h2
  rw [if_pos g1] at h2
  rw [Int.natCast_add]
  exact h2

theorem kept_pgc {p g c : Nat} {w w' : World} {B : Nat} (h : Kept [p, g, c] w w') (hp : B ≤ p) (hg : B ≤ g) (hc : B ≤ c) (hB : B ≤ w.heap.size) : Below B w w' := h.toBelow (by intro k hk; simp at hk; omega) hB

set_option maxRecDepth 100000 in
set_option maxHeartbeats 1000000 in
theorem works10_any (w : World) : Calls Try.prog 44 #[] w fun e w' => e = .returned (.bool true) ∧ Below w.heap.size w w' := by
  have HN := Lib.hid (dk_new 2 (by omega) (by omega) w)
  have HA0 := Lib.hid (Ep.at_fresh 2 1 1 (by omega))
  have HO0 := Lib.hid (show (Dk.fresh 2).off = false from rfl)
  have HL0 := Lib.hid (show (Dk.fresh 2).left ≠ 0 by simp [Dk.fresh])
  have HL1 := Lib.hid (show (Dk.fresh 2).left = -1 from rfl)
  have HB0 := Lib.hid (show (Dk.fresh 2).b.length = 256 by unfold Dk.fresh; rw [List.length_replicate])
  have HZ0 := Lib.hid (show (Dk.fresh 2).b.getD 0 0 = 0 by decide +kernel)
  generalize Dk.fresh 2 = d0 at *
  go_enter Try.func44, Try.ntmps44
  go_upto_region 4 with (go_at_call 14; refine HN.out.mono ?_; rintro e w1 ⟨p, g, rfl, hD1, hp1, hg1, hb1⟩; have HD1 := Lib.hid hD1; have HB1 := Lib.hid hb1; have hpl := hD1.ltp; have hgl := hD1.ltg; clear hD1 hb1)
  go_upto_region 5 with (go_at_call 41; refine (ep_open_at HD1.out 1 1 0 HA0.out HO0.out (by omega)).mono ?_; rintro e w2 ⟨c, rfl, hc, hC, hb⟩; have HC2 := Lib.hid hC; have HD2 := Lib.hid (HD1.out.below hb (Nat.le_refl _)); have HB2 := Lib.hid (HB1.out.trans (hb.mono HB1.out.size)); clear hC hb)
  go_wp2_with (first
    | (go_at_call 43; refine (ep_value HC2.out).mono ?_; rintro e w' ⟨rfl, rfl⟩)
    | (go_at_call 42; refine (ep_next_at HD2.out 1 1 0 HA0.out HO0.out HL0.out HC2.out (by omega) (by omega) (by omega)).mono ?_; rintro e w3 ⟨rfl, d1, D1, A1, O1, L1, M1, S1, N1, C1, K1⟩))
  have HL2 := Lib.hid (show d1.left ≠ 0 by rw [L1.out, HL1.out]; decide)
  refine (ep_next_at D1.out 1 1 1 A1.out O1.out HL2.out C1.out (by omega) (by omega) (by omega)).mono ?_
  rintro e w4 ⟨rfl, d2, D2, A2, O2, L2, M2, S2, N2, C2, K2⟩
  have HV := Lib.hid (ep_value (show CtrAt w4 c p _ _ 2 from C2.out))
  have hlen : d2.b.length = 256 := by rw [N2.out, N1.out, HB0.out]
  have b0 : d2.b.getD 0 0 = 0 := by rw [S2.out 0 (by decide), S1.out 0 (by decide), HZ0.out]
  have b1 : d2.b.getD 128 0 = 1 := by have := A2.out.get 0 (by omega); rwa [if_pos (by omega)] at this
  have b2 : d2.b.getD 129 0 = 1 := by have := A2.out.get 1 (by omega); rwa [if_pos (by omega)] at this
  have b3 : d2.b.getD 130 0 = 0 := by have := A2.out.get 2 (by omega); rwa [if_neg (by omega)] at this
  have HX := Lib.hid (And.intro hlen (And.intro b0 (And.intro b1 (And.intro b2 b3))))
  clear hlen b0 b1 b2 b3
  go_wp2_with (first
    | (go_at_call 43; refine HV.out.mono ?_; rintro e w' ⟨rfl, rfl⟩)
    | (go_at_call 17; refine (dk_bytes D2.out).mono ?_; rintro e w5 ⟨v5, rfl, hO5, hB5⟩; obtain ⟨g5, c5, rfl, hg5, hl5, hc5, hs5⟩ := hO5.form 256 HX.out.1 (by omega); have k0 := hs5.cell 0 (by rw [HX.out.1]; omega); have k1 := hs5.cell 128 (by rw [HX.out.1]; omega); have k2 := hs5.cell 129 (by rw [HX.out.1]; omega); have k3 := hs5.cell 130 (by rw [HX.out.1]; omega); rw [HX.out.2.1] at k0; rw [HX.out.2.2.1] at k1; rw [HX.out.2.2.2.1] at k2; rw [HX.out.2.2.2.2] at k3; unfold byteV at k0 k1 k2 k3; rw [show bv 1 = 1 from rfl] at k1 k2; rw [show bv 0 = 0 from rfl] at k0 k3; have HB5 := Lib.hid hB5; clear hO5 hB5 hs5))
  go_ret
  have z2 := HB2.out.size
  have z3 := K1.out.size
  have z4 := K2.out.size
  exact ⟨rfl, ((HB2.out.trans (kept_pgc K1.out (by omega) (by omega) (by omega) (by omega))).trans (kept_pgc K2.out (by omega) (by omega) (by omega) (by omega))).trans (HB5.out.mono (by omega))⟩
end Go.Proofs.Ytdnjjemdnlegdaa
