/-
  The law DiskCopies: a string of bytes; many acts.
-/
import Derived.Test.YtdnjjemdnlegdaaDc1
import Derived.Laws.BytesArg
namespace Go.Proofs.Ytdnjjemdnlegdaa
set_option linter.unusedVariables false
set_option linter.unusedSimpArgs false
open Go Go.RowKit

/-- The text of bytes. -/
def strB (xs : List (BitVec 8)) : ByteArray := strOfNums (xs.map bv)
theorem conv_str {w : World} {b off len cap : Nat} {xs : List (BitVec 8)} (h : SlB w (.slice (some ⟨b, off, none⟩) len cap) xs) :
    (convert 22 9 (.slice (some ⟨b, off, none⟩) len cap)).run Try.prog w = .ok (.string (strB xs)) w := by
  obtain ⟨rfl, _⟩ := h.bounds
  refine run_convert_bytes_arg w 22 5 Try.underlying22 Try.underlying5 b off xs.length cap (xs.map bv) (by simp) (fun i hi => ?_) 9 Try.underlying9
  rw [h.cell i hi]
  simp [byteV, List.getD, List.getElem?_map, List.getElem?_eq_getElem hi]

/-- A slice of acts. -/
def Acts (w : World) (a : Option Addr) (len : Nat) : Prop := 0 < len → ∃ b off, a = some ⟨b, off, none⟩ ∧ b < w.heap.size ∧ ∀ i, i < len → ∃ (a0 : BitVec 8) (at_ n : Int) (v : Value) (xs : List (BitVec 8)) (wh : Bool) (mask : List (BitVec 8)),
  w.rangeAt b (off + i * 21) (actC a0 at_ n v wh mask) ∧ SlB w v xs ∧ mask.length = 16 ∧ -9223372036854775808 ≤ at_ ∧ at_ ≤ 9223372036854775807 ∧ -9223372036854775808 ≤ n ∧ n ≤ 9223372036854775807
/-- A disk of twelve sectors, of the call's own. -/
def CS (w : World) (p g : Nat) (wr : World) : Prop := ∃ d : Dk.D, DiskAt wr p g d ∧ d.b.length = 1536 ∧ Below w.heap.size w wr ∧ w.heap.size ≤ p ∧ w.heap.size ≤ g
theorem CS.bel {w : World} {p g : Nat} {wr : World} (h : CS w p g wr) : Below w.heap.size w wr := by obtain ⟨_, _, _, hb, _⟩ := h; exact hb
theorem CS.act {w : World} {p g : Nat} {wr : World} (h : CS w p g wr) {a0 : BitVec 8} {at_ n : Int} {v : Value} {xs : List (BitVec 8)} {wh : Bool} {mask : List (BitVec 8)} (hs : SlB w v xs) (hm : mask.length = 16)
    (ha0 : -9223372036854775808 ≤ at_) (ha1 : at_ ≤ 9223372036854775807) (hn0 : -9223372036854775808 ≤ n) (hn1 : n ≤ 9223372036854775807) :
    Calls Try.prog 22 #[.pointer (some ⟨p, 0, none⟩), .agg (actC a0 at_ n v wh mask).toArray] wr fun e w' => e = .returned (.tuple #[]) ∧ CS w p g w' := by
  obtain ⟨d, hD, hl, hb, hp, hg⟩ := h
  refine (act_any hD a0 at_ n v xs wh mask (hs.below hb (Nat.le_refl _)) hm ha0 ha1 hn0 hn1).mono ?_
  rintro e w' ⟨he, d', hD', hl', hK⟩
  exact ⟨he, d', hD', by omega, hb.trans (hK.toBelow (by intro k hk; simp at hk; omega) hb.size), hp, hg⟩

theorem re_read (d : Dk.D) (h : d.b.length = 1536) : Dk.read (Dk.restart d) 0 12 = (d.b, 0) := by
  have hm : Dk.may (Dk.restart d) 0 12 = 0 := (Dk.may_zero _ _ _).2 ⟨⟨by omega, by omega, by show (0 : Int) + 12 ≤ ((d.b.length / 128 : Nat) : Int); rw [h]; decide⟩, rfl⟩
  unfold Dk.read
  rw [hm, if_neg (by simp)]
  have : ((Dk.restart d).b.drop (128 * (0 : Int).toNat)).take (128 * (12 : Int).toNat) = d.b := by
    show (d.b.drop 0).take 1536 = d.b
    rw [List.drop_zero, List.take_of_length_le (by omega)]
  rw [this]
theorem re_write (d : Dk.D) (h : d.b.length = 1536) (xs : List (BitVec 8)) (hx : xs.length = 128) : (Dk.write (Dk.restart d) 11 xs).2 = 0 := by
  have hm : Dk.may (Dk.restart d) 11 ((xs.length / 128 : Nat) : Int) = 0 := (Dk.may_zero _ _ _).2 ⟨⟨by omega, by omega, by show (11 : Int) + ((xs.length / 128 : Nat) : Int) ≤ ((d.b.length / 128 : Nat) : Int); rw [h, hx]; decide⟩, rfl⟩
  unfold Dk.write
  rw [if_neg (by rw [hx]; decide), hm, if_neg (by simp), hx]
  show (Dk.run 11 xs 1 0 (Dk.restart d)).2 = 0
  unfold Dk.run
  rw [if_neg (by simp [Dk.restart])]
  rfl

/-- The disk, its bytes of then, its copy. -/
def QS (w : World) (p g : Nat) (d : Dk.D) (v : Value) (p' g' : Nat) (wr : World) : Prop :=
  DiskAt wr p g d ∧ SlB wr v d.b ∧ Below w.heap.size w wr ∧ (∃ d', DiskAt wr p' g' d') ∧ w.heap.size ≤ p' ∧ w.heap.size ≤ g' ∧ p ∉ [p', g'] ∧ g ∉ [p', g'] ∧ (∀ k, v.ownBlock = some k → k ∉ [p', g']) ∧ w.heap.size ≤ p ∧ w.heap.size ≤ g ∧ ∀ k, v.ownBlock = some k → k ∉ [p, g]
theorem QS.bel {w : World} {p g : Nat} {d : Dk.D} {v : Value} {p' g' : Nat} {wr : World} (h : QS w p g d v p' g' wr) : Below w.heap.size w wr := h.2.2.1
theorem QS.act {w : World} {p g : Nat} {d : Dk.D} {v0 : Value} {p' g' : Nat} {wr : World} (h : QS w p g d v0 p' g' wr) {a0 : BitVec 8} {at_ n : Int} {v : Value} {xs : List (BitVec 8)} {wh : Bool} {mask : List (BitVec 8)} (hs : SlB w v xs) (hm : mask.length = 16)
    (ha0 : -9223372036854775808 ≤ at_) (ha1 : at_ ≤ 9223372036854775807) (hn0 : -9223372036854775808 ≤ n) (hn1 : n ≤ 9223372036854775807) :
    Calls Try.prog 22 #[.pointer (some ⟨p', 0, none⟩), .agg (actC a0 at_ n v wh mask).toArray] wr fun e w' => e = .returned (.tuple #[]) ∧ QS w p g d v0 p' g' w' := by
  obtain ⟨hD, hv, hb, ⟨d', hD'⟩, h1, h2, h3, h4, h5, h6, h7, h8⟩ := h
  refine (act_any hD' a0 at_ n v xs wh mask (hs.below hb (Nat.le_refl _)) hm ha0 ha1 hn0 hn1).mono ?_
  rintro e w' ⟨he, d2, hD2, _, hK⟩
  exact ⟨he, hD.kept hK h3 h4, hv.keptV hK h5, hb.trans (hK.toBelow (by intro k hk; simp at hk; omega) hb.size), ⟨d2, hD2⟩, h1, h2, h3, h4, h5, h6, h7, h8⟩

set_option maxRecDepth 100000 in
set_option maxHeartbeats 4000000 in
theorem law_diskCopies (a0 : Option Addr) (n0 cap0 : Nat) (a1 : Option Addr) (n1 cap1 : Nat) (w : World) (hm0 : cap0 ≤ maxLen) (hc0 : n0 ≤ cap0) (hc1 : n1 ≤ cap1) (hm1 : cap1 ≤ maxLen) (h0 : Acts w a0 n0) (h1 : Acts w a1 n1) :
    Calls Try.prog 4 #[.slice a0 n0 cap0, .slice a1 n1 cap1] w fun e w' => e = .returned (.bool true) ∧ Below w.heap.size w w' := by
  have hn := dk_new 12 (by omega) (by omega) w
  rw [show ((12 : Nat) : Int) = 12 from rfl] at hn
  have HN := Lib.hid hn
  have HWK := Lib.hid works_any
  have H0 := Lib.hid h0
  have H1 := Lib.hid h1
  have hi : ∀ (a0 : BitVec 8) (at_ n : Int) (v : Value) (wh : Bool) (mask : List (BitVec 8)), mask.length = 16 → (Try.prog.info? 25).map (·.size) = some (actC a0 at_ n v wh mask).length := fun a0 at_ n v wh mask hm => by
    rw [show (actC a0 at_ n v wh mask).length = 21 by simp [actC, bcells_length, hm]]; kernel_rfl
  have HI := Lib.hid hi
  clear hn h0 h1 hi
  go_enter Try.func4, Try.ntmps4
  go_upto_region 4 with (go_at_call 14; refine HN.out.mono ?_; rintro e w1 ⟨p, g, rfl, hD1, hp1, hg1, hb1⟩; have HS1 := Lib.hid (show CS w p g w1 from ⟨_, hD1, by unfold Dk.fresh; rw [List.length_replicate], hb1, hp1, hg1⟩); clear hD1 hb1)
  clear HN
  go_wp2
  go_loopw [7] (fun s7 wr => ∃ (i : Nat), i ≤ 15 ∧ s7 = .int .i64 i ∧ Hid (CS w p g wr)) (fun s7 _ => 15 - (intOf s7).toNat)
  case atStart => exact ⟨0, by omega, rfl, HS1⟩
  case round =>
    clear HS1
    obtain ⟨i, hi15, rfl, HS1⟩ := hrel
    go_upto_region 5 with fail
    go_cut [30] (fun s wx => s = .bool (decide (i < n0 ∧ i < 15)) ∧ wx = wr)
    case first =>
      by_cases h1 : i < n0
      · by_cases h2 : i < 15
        all_goals
          go_wp2_with fail
          go_meet
          case rel => exact ⟨by simp [h1, h2] <;> omega, rfl⟩
      · go_wp2_with fail
        go_meet
        case rel => exact ⟨by simp [h1] <;> omega, rfl⟩
    case rest =>
      by_cases hc : i < n0 ∧ i < 15
      · rw [decide_eq_true hc] at hcut
        obtain ⟨rfl, rfl⟩ := hcut
        obtain ⟨h1, h2⟩ := hc
        obtain ⟨b, off, rfl, hbl, hA⟩ := H0.out (by omega)
        obtain ⟨x0, at_, n, v, xs, wh, mask, hra, hs, hm, ra, rb, rc, rd⟩ := hA i h1
        have hra2 : wc.rangeAt b (off + i * 21) (actC x0 at_ n v wh mask) := fun j u hj => (HS1.out.bel.cell (p := ⟨b, off + i * 21 + j, none⟩) hbl).trans (hra j u hj)
        have HRA := Lib.hid hra2
        have HIA := Lib.hid (HI.out x0 at_ n v wh mask hm)
        have HACT := Lib.hid (HS1.out.act hs hm ra rb rc rd (a0 := x0) (wh := wh))
        clear hra hra2 hA
        go_wp2_with (first
          | (refine wpList_load_mid rfl 25 (.tmp 36) rfl b (off + i * 21) rfl (actC x0 at_ n v wh mask) _ HRA.out Try.underlying25 rfl HIA.out ?_)
          | (go_at_call 22; refine HACT.out.mono ?_; rintro e w2 ⟨rfl, hS⟩; have HS2 := Lib.hid hS; clear hS))
        go_roundw
        case rel => exact ⟨i + 1, by omega, by go_num, HS2⟩
        case measure => simp [intOf]; omega
      · rw [decide_eq_false hc] at hcut
        obtain ⟨rfl, rfl⟩ := hcut
        clear hc
        have hcs := HS1.out
        obtain ⟨d, hD, hdl, hbel, hp, hg⟩ := hcs
        have HD := Lib.hid hD
        have HBL := Lib.hid (dk_bytes hD)
        have HOF := Lib.hid (fun (W : World) (h : DiskAt W p g d) => dk_off h)
        have HWR := Lib.hid (fun (W : World) (h : DiskAt W p g d) => dk_writes h)
        have HCP := Lib.hid (fun (W : World) (h : DiskAt W p g d) => dk_copy h)
        have HBEL := Lib.hid hbel
        clear hD hbel HS1
        go_upto_region 10 with (first
          | (go_at_call 17; refine HBL.out.mono ?_; rintro e w2 ⟨va, rfl, ho, hb⟩; have HO := Lib.hid ho; have HB2 := Lib.hid hb; have HD2 := Lib.hid (HD.out.below hb (Nat.le_refl _)); clear ho hb)
          | (go_at_call 20; refine (HOF.out _ HD2.out).mono ?_; rintro e w' ⟨rfl, rfl⟩)
          | (go_at_call 23; refine (HWR.out _ HD2.out).mono ?_; rintro e w' ⟨rfl, rfl⟩)
          | (go_at_call 24; refine (HCP.out _ HD2.out).mono ?_; rintro e w3 ⟨p', g', r, rfl, hD3, hp3, hg3, hb⟩; have HD3 := Lib.hid hD3; have HB3 := Lib.hid hb; clear hD3 hb))
        obtain ⟨b, off, cap, rfl, _, hb2⟩ := HO.out.sl.open_ 1536 hdl (by omega)
        have hz2 := HB2.out.size
        have hz3 := HB3.out.size
        have HSA := Lib.hid (HO.out.sl.below HB3.out (Nat.le_refl _))
        have kc : ∀ (W : World) (b off cap : Nat), SlB W (.slice (some ⟨b, off, none⟩) 1536 cap) d.b → (convert 22 9 (.slice (some ⟨b, off, none⟩) 1536 cap)).run Try.prog W = .ok (.string (strB d.b)) W := fun W b off cap h => conv_str h
        have sA : SlB w3.drew (.slice (some ⟨b, off, none⟩) 1536 cap) d.b := HSA.out.drew
        have HCB := Lib.hid (dk_bytes HD3.out.drew)
        have HDL := Lib.hid hdl
        go_cut [68] (fun s wx => s = .bool false ∧ Hid (Below w3.heap.size w3 wx))
        case first =>
          have HD3' := Lib.hid HD3.out.drew
          clear HD HBL HOF HWR HCP
          go_region_with (first
            | (go_at_call 17; refine HCB.out.mono ?_; rintro e w4 ⟨vb, rfl, ho, hb⟩; obtain ⟨b2, off2, cap2, rfl, _, _⟩ := ho.sl.open_ 1536 HDL.out (by omega); have sB := SlB.below HSA.out.drew hb (Nat.le_refl _); have sC := ho.sl; have HD4 := Lib.hid (HD3.out.drew.below hb (Nat.le_refl _)); have HB4 := Lib.hid hb; clear ho hb)
            | (go_at_call 20; refine (dk_off HD4.out).mono ?_; rintro e w' ⟨rfl, rfl⟩)
            | (go_at_call 23; refine (dk_writes HD4.out).mono ?_; rintro e w' ⟨rfl, rfl⟩))
          all_goals (go_wp2_with fail; go_meet)
          all_goals exact ⟨rfl, Lib.hid ((Below.refl _ w3).drew.trans HB4.out)⟩
        case rest =>
          obtain ⟨rfl, HB4⟩ := hcut
          have hQ : QS w p g d (.slice (some ⟨b, off, none⟩) 1536 cap) p' g' wc := by
            have hp2 := HD2.out.ltp
            have hg2 := HD2.out.ltg
            have hz1 := HBEL.out.size
            have hp0 := HD.out.ltp
            have hg0 := HD.out.ltg
            have hap := HO.out.apart (l := [p, g]) (by intro k hk; simp at hk; omega) (by intro h; rw [h] at hdl; simp at hdl)
            refine ⟨(HD2.out.below HB3.out (Nat.le_refl _)).below HB4.out (Nat.le_refl _), HSA.out.below HB4.out (Nat.le_refl _), HBEL.out.trans ((HB2.out.trans ((HB3.out.trans (HB4.out.mono hz3)).mono hz2)).mono hz1), ⟨_, HD3.out.below HB4.out (Nat.le_refl _)⟩, by omega, by omega, by simp; omega, by simp; omega, ?_, hp1, hg1, hap⟩
            intro k hk
            simp only [Value.ownBlock, Option.some.injEq] at hk
            subst hk
            simp
            omega
          have HQ := Lib.hid hQ
          clear hQ HD HBL HOF HWR HCP HD2 HD3 HB2 HB3 HB4 HSA sA kc HCB HBEL HO hp3 hg3 hz2 hz3 hb2 hp1 hg1 H0 hc0 hm0
          go_wp2
          go_loopw [12] (fun s12 wr => ∃ (i : Nat), i ≤ 15 ∧ s12 = .int .i64 i ∧ Hid (QS w p g d (.slice (some ⟨b, off, none⟩) 1536 cap) p' g' wr)) (fun s12 _ => 15 - (intOf s12).toNat)
          case atStart => exact ⟨0, by omega, rfl, HQ⟩
          case round =>
            clear HQ
            obtain ⟨m, hm15, rfl, HQ⟩ := hrel
            go_upto_region 13 with fail
            go_cut [76] (fun s wx => s = .bool (decide (m < n1 ∧ m < 15)) ∧ wx = wr)
            case first =>
              by_cases h1 : m < n1
              · by_cases h2 : m < 15
                all_goals
                  go_wp2_with fail
                  go_meet
                  case rel => exact ⟨by simp [h1, h2] <;> omega, rfl⟩
              · go_wp2_with fail
                go_meet
                case rel => exact ⟨by simp [h1] <;> omega, rfl⟩
            case rest =>
              by_cases hc : m < n1 ∧ m < 15
              · rw [decide_eq_true hc] at hcut
                obtain ⟨rfl, rfl⟩ := hcut
                obtain ⟨h1, h2⟩ := hc
                obtain ⟨b1, off1, rfl, hbl, hA⟩ := H1.out (by omega)
                obtain ⟨x0, at_, n, v, xs, wh, mask, hra, hs, hm, ra, rb, rc, rd⟩ := hA m h1
                have hra2 : wc.rangeAt b1 (off1 + m * 21) (actC x0 at_ n v wh mask) := fun j u hj => (HQ.out.bel.cell (p := ⟨b1, off1 + m * 21 + j, none⟩) hbl).trans (hra j u hj)
                have HRA := Lib.hid hra2
                have HIA := Lib.hid (HI.out x0 at_ n v wh mask hm)
                have HACT := Lib.hid (HQ.out.act hs hm ra rb rc rd (a0 := x0) (wh := wh))
                clear hra hra2 hA
                go_wp2_with (first
                  | (refine wpList_load_mid rfl 25 (.tmp 82) rfl b1 (off1 + m * 21) rfl (actC x0 at_ n v wh mask) _ HRA.out Try.underlying25 rfl HIA.out ?_)
                  | (go_at_call 22; refine HACT.out.mono ?_; rintro e w2 ⟨rfl, hS⟩; have HS2 := Lib.hid hS; clear hS))
                go_roundw
                case rel => exact ⟨m + 1, by omega, by go_num, HS2⟩
                case measure => simp [intOf]; omega
              · rw [decide_eq_false hc] at hcut
                obtain ⟨rfl, rfl⟩ := hcut
                clear hc H1 HI
                go_upto_region 16 with fail
                obtain ⟨hD, hv, hb, _, _, _, _, _, _, hp1, hg1, hap⟩ := HQ.out
                have HD := Lib.hid hD
                have HBEL := Lib.hid hb
                have HV := Lib.hid hv
                have HAP := Lib.hid hap
                have kc : ∀ (W : World) (b off cap : Nat), SlB W (.slice (some ⟨b, off, none⟩) 1536 cap) d.b → (convert 22 9 (.slice (some ⟨b, off, none⟩) 1536 cap)).run Try.prog W = .ok (.string (strB d.b)) W := fun W b off cap h => conv_str h
                have sA : SlB wc.drew (.slice (some ⟨b, off, none⟩) 1536 cap) d.b := hv.drew
                have HCB := Lib.hid (dk_bytes hD.drew)
                clear hD hv hb hap HQ
                go_cut [107] (fun s wx => s = .bool false ∧ Hid (DiskAt wx p g (Dk.restart d)) ∧ Hid (SlB wx (.slice (some ⟨b, off, none⟩) 1536 cap) d.b) ∧ Hid (Below w.heap.size w wx))
                case first =>
                  go_region_with (first
                    | (go_at_call 17; refine HCB.out.mono ?_; rintro e w4 ⟨vb, rfl, ho, hb⟩; obtain ⟨b2, off2, cap2, rfl, _, _⟩ := ho.sl.open_ 1536 HDL.out (by omega); have sB := SlB.below HV.out.drew hb (Nat.le_refl _); have sC := ho.sl; have HD4 := Lib.hid (HD.out.drew.below hb (Nat.le_refl _)); have HB4 := Lib.hid hb; clear ho hb)
                    | (go_at_call 20; refine (dk_off HD4.out).mono ?_; rintro e w' ⟨rfl, rfl⟩)
                    | (go_at_call 23; refine (dk_writes HD4.out).mono ?_; rintro e w' ⟨rfl, rfl⟩)
                    | (go_at_call 25; refine (dk_restart HD4.out).mono ?_; rintro e w5 ⟨rfl, hD5, hK5⟩; have HD5 := Lib.hid hD5; have HK5 := Lib.hid hK5; clear hD5 hK5))
                  all_goals (go_wp2_with fail; go_meet)
                  all_goals exact ⟨rfl, HD5, Lib.hid (sB.keptV HK5.out HAP.out), Lib.hid ((HBEL.out.drew.trans (HB4.out.mono HBEL.out.size)).trans (HK5.out.toBelow (by intro k hk; simp at hk; omega) (HBEL.out.drew.trans (HB4.out.mono HBEL.out.size)).size))⟩
                case rest =>
                  obtain ⟨rfl, HD5, HV5, HB5⟩ := hcut
                  clear kc sA HCB HD HBEL HV
                  have hmk := make_bytes 128 (by omega) wc
                  rw [show ((128 : Nat) : Int) = 128 from rfl] at hmk
                  obtain ⟨Z, hZ⟩ : ∃ Z, Z = bytes (List.replicate 128 0) := ⟨_, rfl⟩
                  rw [← hZ] at hmk
                  have HZ := Lib.hid hZ
                  clear hZ
                  go_upto_region 19 with fail
                  obtain ⟨W, hW, hBW, hWs, hWn⟩ := alloc1 wc (Obj.cells Z 5)
                  rw [hW]
                  clear hmk hW
                  rw [HZ.out] at hWn
                  have c0 : W.cell? ⟨wc.heap.size, 5, none⟩ = some (.int .u8 0) := (cell_of_row W wc.heap.size 5 _ _ _ hWn).trans (by rw [bytes_get? _ 5 (by simp)]; simp [List.getD, byteV, bv])
                  have f0 := frozen_of_row W wc.heap.size 5 _ _ hWn
                  have hset : (W.setCell ⟨wc.heap.size, 5, none⟩ (.int .u8 9)).heap[wc.heap.size]? = some (.cells (bytes ((List.replicate 128 0).set 5 9)) 5 (0, 0)) := by
                    have h := heap_setCell_same W wc.heap.size 5 _ _ (.int .u8 (bv 9)) hWn
                    rw [bytes_set] at h
                    exact h
                  go_upto_region 20 with fail
                  have hK : Kept [wc.heap.size] W (W.setCell ⟨wc.heap.size, 5, none⟩ (.int .u8 9)) := (Kept.refl [wc.heap.size] W).setCell (by simp) _
                  have hsz : wc.heap.size < (W.setCell ⟨wc.heap.size, 5, none⟩ (.int .u8 9)).heap.size := by have := hK.size; omega
                  generalize W.setCell ⟨wc.heap.size, 5, none⟩ (.int .u8 9) = X at *
                  have hp := HD5.out.ltp
                  have hg := HD5.out.ltg
                  have hDX : DiskAt X p g (Dk.restart d) := (HD5.out.below hBW (Nat.le_refl _)).kept hK (by simp; omega) (by simp; omega)
                  have hbX : Below wc.heap.size wc X := hBW.trans (hK.toBelow (by simp) (by omega))
                  have hvX : SlB X (.slice (some ⟨b, off, none⟩) 1536 cap) d.b := HV5.out.below hbX (Nat.le_refl _)
                  obtain ⟨L, hL⟩ : ∃ L : List (BitVec 8), L = (List.replicate 128 0).set 5 9 := ⟨_, rfl⟩
                  have hLl : L.length = 128 := by rw [hL]; simp
                  rw [← hL] at hset
                  have hsl : SlB X (.slice (some ⟨wc.heap.size, 0, none⟩) 128 128) L := SlB.ofRow (bytes_toList _) hLl.symm hsz (fun j => cell_of_row X wc.heap.size j _ _ _ hset) (by omega) (by decide)
                  have hR := dk_read hDX 0 12 (by omega) (by omega) (by omega)
                  rw [re_read d HDL.out] at hR
                  have HR := Lib.hid hR
                  have HW2 := Lib.hid (re_write d HDL.out L hLl)
                  have HDX := Lib.hid hDX
                  have HVX := Lib.hid hvX
                  have HSL := Lib.hid hsl
                  have HBX := Lib.hid (HB5.out.trans (hbX.mono HB5.out.size))
                  have HLL := Lib.hid hLl
                  have hzX := hbX.size
                  clear hR hDX hvX hsl hset hK hBW hWn c0 f0 hbX hLl hL HZ hWs
                  have kc : ∀ (W : World) (b off cap : Nat), SlB W (.slice (some ⟨b, off, none⟩) 1536 cap) d.b → (convert 22 9 (.slice (some ⟨b, off, none⟩) 1536 cap)).run Try.prog W = .ok (.string (strB d.b)) W := fun W b off cap h => conv_str h
                  go_upto_region 21 with (go_at_call 26; refine HR.out.mono ?_; rintro e w6 ⟨v6, rfl, ho, hb6⟩; obtain ⟨b6, off6, cap6, rfl, _, _⟩ := ho.sl.open_ 1536 HDL.out (by omega); have HO6 := Lib.hid ho; have HB6 := Lib.hid hb6; clear ho hb6)
                  have hw := dk_write (HDX.out.below HB6.out (Nat.le_refl _)) 11 _ L (HSL.out.below HB6.out (Nat.le_refl _)) (by rw [HLL.out]; decide) (by intro _ k hk; simp [Value.ownBlock] at hk; subst hk; simp; omega) (by omega) (by omega)
                  rw [HW2.out] at hw
                  have HWW := Lib.hid hw
                  clear hw
                  go_upto_region 22 with (go_at_call 19; refine HWW.out.mono ?_; rintro e w7 ⟨rfl, _, hK7⟩; have HK7 := Lib.hid hK7; clear hK7)
                  have hzx := HDX.out.ltp
                  have hzg := HDX.out.ltg
                  have sW := (HVX.out.below HB6.out (Nat.le_refl _)).keptV HK7.out HAP.out
                  have sG := HO6.out.sl.keptV HK7.out (HO6.out.apart (l := [p, g]) (by intro k hk; simp at hk; omega) (by intro h; have h2 := HDL.out; rw [h] at h2; simp at h2))
                  have hb6 := HBX.out.trans (HB6.out.mono HBX.out.size)
                  have HB7 := Lib.hid (hb6.trans (HK7.out.toBelow (by intro k hk; simp at hk; omega) hb6.size))
                  clear hb6
                  go_wp2_with (go_at_call 21; refine (HWK.out _).mono ?_; rintro e w8 ⟨rfl, hbw⟩)
                  go_ret
                  exact ⟨rfl, HB7.out.trans (hbw.mono HB7.out.size)⟩
end Go.Proofs.Ytdnjjemdnlegdaa
